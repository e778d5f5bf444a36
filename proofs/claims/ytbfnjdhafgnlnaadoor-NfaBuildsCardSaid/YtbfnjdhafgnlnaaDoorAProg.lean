/- The functions in the interpreter's words. -/
import Derived.Test.YtbfnjdhafgnlnaaDoorAbsEnc
import Derived.Test.YtbfnjdhafgnlnaaDoorProg
namespace Go.Abs.NfaD
open Go Go.Abs
abbrev oO (n : Nat) (x : AOp) : AOper := ⟨some n,x,none⟩
abbrev oT (n m : Nat) : AOper := ⟨some n,.mov (.t m),none⟩
abbrev oG (n k m : Nat) : AOper := ⟨some n,.load true k (.t m),none⟩
abbrev oH (n k m : Nat) : AOper := ⟨some n,.load false k (.t m),none⟩
abbrev oF (n k m : Nat) : AOper := ⟨some n,.faddr k (.t m),none⟩
abbrev oN (n m : Nat) : AOper := ⟨some n,.len (.t m),none⟩
abbrev oM (n : Nat) (x : Arg) : AOper := ⟨some n,.mov x,none⟩
abbrev oX (n : Nat) (x : Arg) : AOper := ⟨some n,.box x,none⟩
abbrev oB (n : Nat) (o : BinOp) (a b : Nat) : AOper := ⟨some n,.bin o (.t a) (.t b),none⟩
abbrev oA (n : Nat) (o : BinOp) (a : Nat) (x : Arg) : AOper := ⟨some n,.bin o (.t a) x,none⟩
abbrev oI (n : Int) : AV := .int .i64 n
abbrev oS : AV := .sl true 0 []
abbrev oR (l : List AOper) (c : ACode) : ACode := .seq (.region l) c
abbrev oE : AV := .any
def xZf : ACode :=
 .seq (oR ([oT 57 15,
 oA 58 .lss 57 (.c (oI 2))])
 (.cond (.t 58)
 .skip
 (.exit 0)))
 (.seq (.block 1 (oR ([oG 62 5 14,
 oO 63 (.ocall 15 [.t 62]),
 oT 61 63,
 oO 64 (.ext 0 (.t 61)),
 oO 65 (.ext 1 (.t 61)),
 oT 16 64,
 oT 17 65])
 (oR ([oG 67 5 14,
 oO 68 (.ocall 16 [.t 67]),
 oT 66 68,
 oO 69 (.ext 0 (.t 66)),
 oO 70 (.ext 1 (.t 66)),
 oT 18 69,
 oT 19 70])
 (oR ([oG 72 5 14,
 oO 73 (.ocallw 17 [.t 72]),
 oT 71 73,
 oO 74 (.ext 0 (.t 71)),
 oO 75 (.ext 1 (.t 71)),
 oX 20 (.c (.agg [oI 0,oI 0,oS,oS,oS])),
 ⟨none,.store 5 (.t 20) (.t 74),none⟩,
 oT 21 75])
 (oR ([oG 77 5 14,
 oO 78 (.ocallw 18 [.t 77]),
 oT 76 78,
 oO 79 (.ext 0 (.t 76)),
 oO 80 (.ext 1 (.t 76)),
 oX 22 (.c (.agg [oI 0,oI 0,oS,oS,oS])),
 ⟨none,.store 5 (.t 22) (.t 79),none⟩,
 oT 23 80])
 (oR ([oG 82 5 14,
 oG 83 5 3,
 oO 84 (.ocallw 19 [.t 82,.t 83]),
 oT 81 84,
 oO 85 (.ext 0 (.t 81)),
 oO 86 (.ext 1 (.t 81)),
 oX 24 (.c (.agg [oI 0,oI 0,oS,oS,oS])),
 ⟨none,.store 5 (.t 24) (.t 85),none⟩,
 oT 25 86])
 (.seq (oR ([oT 87 17,
 oT 88 5,
 oB 89 .neq 87 88,
 oT 90 89,
 ⟨some 91,.mov (.t 19),some (90,false)⟩,
 ⟨some 92,.mov (.t 5),some (90,false)⟩,
 ⟨some 93,.bin .neq (.t 91) (.t 92),some (90,false)⟩,
 oO 94 (.pick (.t 90) (.c (.bool true)) (.t 93)),
 oT 95 94,
 ⟨some 96,.mov (.t 21),some (95,false)⟩,
 ⟨some 97,.mov (.t 9),some (95,false)⟩,
 ⟨some 98,.bin .neq (.t 96) (.t 97),some (95,false)⟩,
 oO 99 (.pick (.t 95) (.c (.bool true)) (.t 98)),
 oT 100 99,
 ⟨some 101,.mov (.t 23),some (100,false)⟩,
 ⟨some 102,.mov (.t 11),some (100,false)⟩,
 ⟨some 103,.bin .neq (.t 101) (.t 102),some (100,false)⟩,
 oO 104 (.pick (.t 100) (.c (.bool true)) (.t 103)),
 oT 105 104,
 ⟨some 106,.mov (.t 25),some (105,false)⟩,
 ⟨some 107,.mov (.t 13),some (105,false)⟩,
 ⟨some 108,.bin .neq (.t 106) (.t 107),some (105,false)⟩,
 oO 109 (.pick (.t 105) (.c (.bool true)) (.t 108)),
 oT 110 109,
 ⟨some 111,.mov (.t 16),some (110,false)⟩,
 ⟨some 112,.mov (.t 6),some (110,false)⟩,
 ⟨some 113,.mov (.t 5),some (110,false)⟩,
 ⟨some 114,.call 21 [.t 112,.t 113],some (110,false)⟩,
 ⟨some 115,.call 20 [.t 111,.t 114],some (110,false)⟩,
 ⟨some 116,.un .not (.t 115),some (110,false)⟩,
 oO 117 (.pick (.t 110) (.c (.bool true)) (.t 116)),
 oT 118 117,
 ⟨some 119,.mov (.t 18),some (118,false)⟩,
 ⟨some 120,.mov (.t 7),some (118,false)⟩,
 ⟨some 121,.mov (.t 5),some (118,false)⟩,
 ⟨some 122,.call 21 [.t 120,.t 121],some (118,false)⟩,
 ⟨some 123,.call 20 [.t 119,.t 122],some (118,false)⟩,
 ⟨some 124,.un .not (.t 123),some (118,false)⟩,
 oO 125 (.pick (.t 118) (.c (.bool true)) (.t 124)),
 oT 126 125,
 ⟨some 127,.load true 5 (.t 20),some (126,false)⟩,
 ⟨some 128,.load true 5 (.t 8),some (126,false)⟩,
 ⟨some 129,.call 22 [.t 127,.t 128],some (126,false)⟩,
 ⟨some 130,.un .not (.t 129),some (126,false)⟩,
 oO 131 (.pick (.t 126) (.c (.bool true)) (.t 130)),
 oT 132 131,
 ⟨some 133,.load true 5 (.t 22),some (132,false)⟩,
 ⟨some 134,.load true 5 (.t 10),some (132,false)⟩,
 ⟨some 135,.call 22 [.t 133,.t 134],some (132,false)⟩,
 ⟨some 136,.un .not (.t 135),some (132,false)⟩,
 oO 137 (.pick (.t 132) (.c (.bool true)) (.t 136)),
 oT 138 137,
 ⟨some 139,.load true 5 (.t 24),some (138,false)⟩,
 ⟨some 140,.load true 5 (.t 12),some (138,false)⟩,
 ⟨some 141,.call 22 [.t 139,.t 140],some (138,false)⟩,
 ⟨some 142,.un .not (.t 141),some (138,false)⟩,
 oO 143 (.pick (.t 138) (.c (.bool true)) (.t 142)),
 oT 144 143,
 ⟨some 145,.load true 5 (.t 14),some (144,false)⟩,
 ⟨some 146,.load true 5 (.t 2),some (144,false)⟩,
 ⟨some 147,.call 22 [.t 145,.t 146],some (144,false)⟩,
 ⟨some 148,.un .not (.t 147),some (144,false)⟩,
 oO 149 (.pick (.t 144) (.c (.bool true)) (.t 148))])
 (.cond (.t 149)
 (oR ([oM 4 (.c (.bool false))])
 .ret)
 .skip))
 (oR ([oT 150 16,
 oO 151 (.icall (.c (.func 23 [])) [.t 150])])
 (oR ([oT 152 18,
 oO 153 (.icall (.c (.func 23 [])) [.t 152])])
 (oR ([oG 154 5 20,
 oO 155 (.icall (.c (.func 24 [])) [.t 154])])
 (oR ([oG 156 5 22,
 oO 157 (.icall (.c (.func 24 [])) [.t 156])])
 (.region [oG 158 5 24,
 oO 159 (.icall (.c (.func 24 [])) [.t 158])]))))))))))))
 (.region [oT 59 15,
 oA 60 .add 59 (.c (oI 1)),
 oT 15 60]))
def yAn : ACode := xZf
def xQn : List Nat := [0,1,16,17,18,19,20,21,22,23,24,25,26,27,28,29,30,31,32,33,34,35,36,37,38,39,40,41,42,43,44,45,46,47,48,49,50,51,52,53,54,55,56,57,58,59,60,61,62,63,64,65,66,67,68,69,70,71,72,73,74,75,76,77,78,79,80,81,82,83,84,85,86,87,88,89,90,91,92,93,94,95,96,97,98,99,100,101,102,103,104,105,106,107,108,109,110,111,112,113,114,115,116,117,118,119,120,121,122,123,124,125,126,127,128,129,130,131,132,133,134,135,136,137,138,139,140,141,142,143,144,145,146,147,148,149,150,151,152,153,154,155,156,157,158,159,160]
abbrev xQo (s2 s3 s4 s5 s6 s7 s8 s9 s10 s11 s12 s13 s14 s15 : AV) : List AV := [oE,oE,s2,s3,s4,s5,s6,s7,s8,s9,s10,s11,s12,s13,s14,s15,oE,oE,oE,oE,oE,oE,oE,oE,oE,oE,oE,oE,oE,oE,oE,oE,oE,oE,oE,oE,oE,oE,oE,oE,oE,oE,oE,oE,oE,oE,oE,oE,oE,oE,oE,oE,oE,oE,oE,oE,oE,oE,oE,oE,oE,oE,oE,oE,oE,oE,oE,oE,oE,oE,oE,oE,oE,oE,oE,oE,oE,oE,oE,oE,oE,oE,oE,oE,oE,oE,oE,oE,oE,oE,oE,oE,oE,oE,oE,oE,oE,oE,oE,oE,oE,oE,oE,oE,oE,oE,oE,oE,oE,oE,oE,oE,oE,oE,oE,oE,oE,oE,oE,oE,oE,oE,oE,oE,oE,oE,oE,oE,oE,oE,oE,oE,oE,oE,oE,oE,oE,oE,oE,oE,oE,oE,oE,oE,oE,oE,oE,oE,oE,oE,oE,oE,oE,oE,oE,oE,oE,oE,oE,oE,oE]
theorem xZg (a b c d e f g h i j k l m n o p q r s t u v w x y z A B C D E F G H I J K L M N O P Q R S T U V W X Y Z a0 a1 a2 a3 a4 a5 a6 a7 a8 a9 b0 b1 b2 b3 b4 b5 b6 b7 b8 b9 c0 c1 c2 c3 c4 c5 c6 c7 c8 c9 d0 d1 d2 d3 d4 d5 d6 d7 d8 d9 e0 e1 e2 e3 e4 e5 e6 e7 e8 e9 f0 f1 f2 f3 f4 f5 f6 f7 f8 f9 g0 g1 g2 g3 g4 g5 g6 g7 g8 g9 h0 h1 h2 h3 h4 h5 h6 h7 h8 h9 i0 i1 i2 i3 i4 i5 i6 i7 i8 i9 j0 j1 j2 j3 j4 j5 j6 j7 j8 j9 k0 k1 k2 k3 k4 k5 k6 k7 k8 : AV) : xA6 xQn [a,b,c,d,e,f,g,h,i,j,k,l,m,n,o,p,q,r,s,t,u,v,w,x,y,z,A,B,C,D,E,F,G,H,I,J,K,L,M,N,O,P,Q,R,S,T,U,V,W,X,Y,Z,a0,a1,a2,a3,a4,a5,a6,a7,a8,a9,b0,b1,b2,b3,b4,b5,b6,b7,b8,b9,c0,c1,c2,c3,c4,c5,c6,c7,c8,c9,d0,d1,d2,d3,d4,d5,d6,d7,d8,d9,e0,e1,e2,e3,e4,e5,e6,e7,e8,e9,f0,f1,f2,f3,f4,f5,f6,f7,f8,f9,g0,g1,g2,g3,g4,g5,g6,g7,g8,g9,h0,h1,h2,h3,h4,h5,h6,h7,h8,h9,i0,i1,i2,i3,i4,i5,i6,i7,i8,i9,j0,j1,j2,j3,j4,j5,j6,j7,j8,j9,k0,k1,k2,k3,k4,k5,k6,k7,k8] = xQo c d e f g h i j k l m n o p := by kernel_rfl
theorem yCj {prog : Nat → Option AFunc} (s2 s3 s4 s5 s6 s7 s8 s9 s10 s11 s12 s13 s14 s15 : AV) (H : Heap) : (lim prog).loop xQn yAn ⟨xQo s2 s3 s4 s5 s6 s7 s8 s9 s10 s11 s12 s13 s14 s15,H⟩ = xBv (lim prog) xQn yAn (run (lim prog) xZf ⟨xQo s2 s3 s4 s5 s6 s7 s8 s9 s10 s11 s12 s13 s14 s15,H⟩) := xAN _ _ _ _ (by kernel_rfl)
def a3 : AFunc := ⟨161,
 oR ([oX 2 (.t 0),
 oX 3 (.t 1),
 oM 4 (.c (.bool false))])
 (.seq (oR ([oG 26 5 2,
 oG 27 5 3,
 oO 28 (.bslice true [oI 0,oI 0,oS,oS,oS] 5 2 [(0,.t 26),(1,.t 27)]),
 oO 29 (.call 6 [.t 28])])
 (.cond (.t 29)
 (oR ([oO 30 (.call 7 []),
 oT 4 30])
 .ret)
 .skip))
 (oR ([oG 31 5 2,
 oO 32 (.call 8 [.t 31]),
 oT 5 32])
 (oR ([oM 6 (.c (oS)),
 oM 7 (.c (oS))])
 (.seq (oR ([oT 33 5,
 oA 34 .eql 33 (.c (oI 0))])
 (.cond (.t 34)
 (.draw 3 [oG 35 5 2,
 oO 36 (.call 9 [.t 35]),
 oG 37 5 2,
 oO 38 (.call 10 [.t 37]),
 oT 6 36,
 oT 7 38])
 .skip))
 (oR ([oG 40 5 2,
 oO 41 (.call 11 [.t 40]),
 oT 39 41,
 oO 42 (.ext 0 (.t 39)),
 oO 43 (.ext 1 (.t 39)),
 oX 8 (.c (.agg [oI 0,oI 0,oS,oS,oS])),
 ⟨none,.store 5 (.t 8) (.t 42),none⟩,
 oT 9 43])
 (oR ([oG 45 5 2,
 oO 46 (.call 12 [.t 45]),
 oT 44 46,
 oO 47 (.ext 0 (.t 44)),
 oO 48 (.ext 1 (.t 44)),
 oX 10 (.c (.agg [oI 0,oI 0,oS,oS,oS])),
 ⟨none,.store 5 (.t 10) (.t 47),none⟩,
 oT 11 48])
 (oR ([oG 50 5 2,
 oG 51 5 3,
 oO 52 (.call 13 [.t 50,.t 51]),
 oT 49 52,
 oO 53 (.ext 0 (.t 49)),
 oO 54 (.ext 1 (.t 49)),
 oX 12 (.c (.agg [oI 0,oI 0,oS,oS,oS])),
 ⟨none,.store 5 (.t 12) (.t 53),none⟩,
 oT 13 54])
 (oR ([oG 55 5 2,
 oO 56 (.call 14 [.t 55]),
 oX 14 (.c (.agg [oI 0,oI 0,oS,oS,oS])),
 ⟨none,.store 5 (.t 14) (.t 56),none⟩])
 (.seq (oR ([oM 15 (.c (oI 0))])
 (.block 0 (.loop xQn yAn)))
 (oR ([oO 160 (.call 7 []),
 oT 4 160])
 .ret)))))))))),
 [.tmp 4]⟩
def xQp : ACode :=
 .seq (oR ([oT 4 3,
 oT 5 0,
 oN 6 5,
 oB 7 .lss 4 6])
 (.cond (.t 7)
 .skip
 (.exit 0)))
 (.seq (.block 1 (oR ([oT 10 0,
 oT 11 3,
 oO 12 (.iaddr 5 (.t 10) (.t 11)),
 oF 13 2 12,
 oH 14 1 13,
 oN 15 14,
 oA 16 .gtr 15 (.c (oI 100)),
 oT 17 16,
 ⟨some 18,.mov (.t 0),some (17,false)⟩,
 ⟨some 19,.mov (.t 3),some (17,false)⟩,
 ⟨some 20,.iaddr 5 (.t 18) (.t 19),some (17,false)⟩,
 ⟨some 21,.faddr 3 (.t 20),some (17,false)⟩,
 ⟨some 22,.load false 1 (.t 21),some (17,false)⟩,
 ⟨some 23,.len (.t 22),some (17,false)⟩,
 ⟨some 24,.bin .gtr (.t 23) (.c (oI 100)),some (17,false)⟩,
 oO 25 (.pick (.t 17) (.c (.bool true)) (.t 24)),
 oT 26 25,
 ⟨some 27,.mov (.t 0),some (26,false)⟩,
 ⟨some 28,.mov (.t 3),some (26,false)⟩,
 ⟨some 29,.iaddr 5 (.t 27) (.t 28),some (26,false)⟩,
 ⟨some 30,.faddr 4 (.t 29),some (26,false)⟩,
 ⟨some 31,.load false 1 (.t 30),some (26,false)⟩,
 ⟨some 32,.len (.t 31),some (26,false)⟩,
 ⟨some 33,.bin .gtr (.t 32) (.c (oI 520)),some (26,false)⟩,
 oO 34 (.pick (.t 26) (.c (.bool true)) (.t 33))])
 (.cond (.t 34)
 (oR ([oM 2 (.c (.bool true))])
 .ret)
 .skip)))
 (.region [oT 8 3,
 oA 9 .add 8 (.c (oI 1)),
 oT 3 9]))
def yC9 : ACode := xQp
def xZh : List Nat := [1,4,5,6,7,8,9,10,11,12,13,14,15,16,17,18,19,20,21,22,23,24,25,26,27,28,29,30,31,32,33,34]
abbrev yBl (s0 s2 s3 : AV) : List AV := [s0,oE,s2,s3,oE,oE,oE,oE,oE,oE,oE,oE,oE,oE,oE,oE,oE,oE,oE,oE,oE,oE,oE,oE,oE,oE,oE,oE,oE,oE,oE,oE,oE,oE,oE]
theorem xTv (a b c d e f g h i j k l m n o p q r s t u v w x y z A B C D E F G H I : AV) : xA6 xZh [a,b,c,d,e,f,g,h,i,j,k,l,m,n,o,p,q,r,s,t,u,v,w,x,y,z,A,B,C,D,E,F,G,H,I] = yBl a c d := by kernel_rfl
theorem xTw {prog : Nat → Option AFunc} (s0 s2 s3 : AV) (H : Heap) : (lim prog).loop xZh yC9 ⟨yBl s0 s2 s3,H⟩ = xBv (lim prog) xZh yC9 (run (lim prog) xQp ⟨yBl s0 s2 s3,H⟩) := xAN _ _ _ _ (by kernel_rfl)
def a6 : AFunc := ⟨35,
 oR ([oM 2 (.c (.bool false))])
 (.seq (oR ([oM 3 (.c (oI 0))])
 (.block 0 (.loop xZh yC9)))
 (oR ([oM 2 (.c (.bool false))])
 .ret)),
 [.tmp 2]⟩
def a7 : AFunc := ⟨102,
 oR ([oM 0 (.c (.bool false))])
 (oR ([oO 14 (.call 27 []),
 oX 1 (.c (.agg [oI 0,oI 0,oS,oS,oS])),
 ⟨none,.store 5 (.t 1) (.t 14),none⟩])
 (oR ([oG 16 5 1,
 oO 17 (.bslice true [.int .u8 0] 1 2 [(0,(.c (.int .u8 1))),(1,(.c (.int .u8 0)))]),
 oO 18 (.call 25 [.t 16,.t 17]),
 oT 15 18,
 oO 19 (.ext 0 (.t 15)),
 oO 20 (.ext 1 (.t 15)),
 oT 2 19,
 oT 3 20])
 (oR ([oG 22 5 1,
 oO 23 (.bslice true [.int .u8 0] 1 3 [(0,(.c (.int .u8 0))),(1,(.c (.int .u8 1))),(2,(.c (.int .u8 1)))]),
 oO 24 (.call 25 [.t 22,.t 23]),
 oT 21 24,
 oO 25 (.ext 0 (.t 21)),
 oO 26 (.ext 1 (.t 21)),
 oT 4 25,
 oT 5 26])
 (oR ([oG 28 5 1,
 oO 29 (.bslice true [.int .u8 0] 1 2 [(0,(.c (.int .u8 0))),(1,(.c (.int .u8 1)))]),
 oO 30 (.call 25 [.t 28,.t 29]),
 oT 27 30,
 oO 31 (.ext 0 (.t 27)),
 oO 32 (.ext 1 (.t 27)),
 oT 6 31,
 oT 7 32])
 (oR ([oG 34 5 1,
 oO 35 (.call 25 [.t 34,(.c (oS))]),
 oT 33 35,
 oO 36 (.ext 0 (.t 33)),
 oO 37 (.ext 1 (.t 33)),
 oT 8 36,
 oT 9 37])
 (oR ([oG 39 5 1,
 oO 40 (.bslice true [.int .u8 0] 1 1 [(0,(.c (.int .u8 1)))]),
 oO 41 (.call 30 [.t 39,.t 40]),
 oT 38 41,
 oO 42 (.ext 0 (.t 38)),
 oO 43 (.ext 1 (.t 38)),
 oT 10 42,
 oT 11 43])
 (oR ([oG 45 5 1,
 oO 46 (.call 18 [.t 45]),
 oT 44 46,
 oO 47 (.ext 0 (.t 44)),
 oO 48 (.ext 1 (.t 44)),
 oX 12 (.c (.agg [oI 0,oI 0,oS,oS,oS])),
 ⟨none,.store 5 (.t 12) (.t 47),none⟩,
 oT 13 48])
 (oR ([oT 49 3,
 oA 50 .eql 49 (.c (oI 0)),
 oT 51 50,
 ⟨some 52,.mov (.t 5),some (51,true)⟩,
 ⟨some 53,.bin .eql (.t 52) (.c (oI 0)),some (51,true)⟩,
 oO 54 (.pick (.t 51) (.t 53) (.c (.bool false))),
 oT 55 54,
 ⟨some 56,.mov (.t 7),some (55,true)⟩,
 ⟨some 57,.bin .eql (.t 56) (.c (oI 0)),some (55,true)⟩,
 oO 58 (.pick (.t 55) (.t 57) (.c (.bool false))),
 oT 59 58,
 ⟨some 60,.mov (.t 9),some (59,true)⟩,
 ⟨some 61,.bin .eql (.t 60) (.c (oI 0)),some (59,true)⟩,
 oO 62 (.pick (.t 59) (.t 61) (.c (.bool false))),
 oT 63 62,
 ⟨some 64,.mov (.t 11),some (63,true)⟩,
 ⟨some 65,.bin .eql (.t 64) (.c (oI 0)),some (63,true)⟩,
 oO 66 (.pick (.t 63) (.t 65) (.c (.bool false))),
 oT 67 66,
 ⟨some 68,.mov (.t 13),some (67,true)⟩,
 ⟨some 69,.bin .eql (.t 68) (.c (oI 0)),some (67,true)⟩,
 oO 70 (.pick (.t 67) (.t 69) (.c (.bool false))),
 oT 71 70,
 ⟨some 72,.mov (.t 2),some (71,true)⟩,
 oO 73 (.pick (.t 71) (.t 72) (.c (.bool false))),
 oT 74 73,
 ⟨some 75,.mov (.t 4),some (74,true)⟩,
 oO 76 (.pick (.t 74) (.t 75) (.c (.bool false))),
 oT 77 76,
 ⟨some 78,.mov (.t 6),some (77,true)⟩,
 ⟨some 79,.un .not (.t 78),some (77,true)⟩,
 oO 80 (.pick (.t 77) (.t 79) (.c (.bool false))),
 oT 81 80,
 ⟨some 82,.mov (.t 8),some (81,true)⟩,
 ⟨some 83,.un .not (.t 82),some (81,true)⟩,
 oO 84 (.pick (.t 81) (.t 83) (.c (.bool false))),
 oT 85 84,
 ⟨some 86,.mov (.t 10),some (85,true)⟩,
 ⟨some 87,.bslice true [.int .u64 0] 1 1 [(0,(.c (.int .u64 3)))],some (85,true)⟩,
 ⟨some 88,.call 20 [.t 86,.t 87],some (85,true)⟩,
 oO 89 (.pick (.t 85) (.t 88) (.c (.bool false))),
 oT 90 89,
 ⟨some 91,.faddr 2 (.t 12),some (90,true)⟩,
 ⟨some 92,.load false 1 (.t 91),some (90,true)⟩,
 ⟨some 93,.bslice true [oI 0] 1 1 [(0,(.c (oI 2)))],some (90,true)⟩,
 ⟨some 94,.call 31 [.t 92,.t 93],some (90,true)⟩,
 oO 95 (.pick (.t 90) (.t 94) (.c (.bool false))),
 oT 96 95,
 ⟨some 97,.faddr 3 (.t 12),some (96,true)⟩,
 ⟨some 98,.load false 1 (.t 97),some (96,true)⟩,
 ⟨some 99,.bslice true [oI 0] 1 1 [(0,(.c (oI 0)))],some (96,true)⟩,
 ⟨some 100,.call 31 [.t 98,.t 99],some (96,true)⟩,
 oO 101 (.pick (.t 96) (.t 100) (.c (.bool false))),
 oT 0 101])
 .ret)))))))),
 [.tmp 0]⟩
def a8 : AFunc := ⟨40,
 oR ([oX 1 (.t 0),
 oM 2 (.c (oI 0))])
 (.seq (oR ([oF 3 0 1,
 oH 4 1 3,
 oO 5 (.call 32 [.t 4]),
 oO 6 (.un .not (.t 5))])
 (.cond (.t 6)
 (oR ([oM 2 (.c (oI 7))])
 .ret)
 .skip))
 (.seq (oR ([oF 7 1 1,
 oH 8 1 7,
 oA 9 .lss 8 (.c (oI 0))])
 (.cond (.t 9)
 (oR ([oM 2 (.c (oI 1))])
 .ret)
 .skip))
 (.seq (oR ([oF 10 1 1,
 oH 11 1 10,
 oA 12 .gtr 11 (.c (oI 64)),
 oT 13 12,
 ⟨some 14,.faddr 4 (.t 1),some (13,false)⟩,
 ⟨some 15,.load false 1 (.t 14),some (13,false)⟩,
 ⟨some 16,.len (.t 15),some (13,false)⟩,
 ⟨some 17,.bin .gtr (.t 16) (.c (oI 512)),some (13,false)⟩,
 oO 18 (.pick (.t 13) (.c (.bool true)) (.t 17))])
 (.cond (.t 18)
 (oR ([oM 2 (.c (oI 4))])
 .ret)
 .skip))
 (.seq (oR ([oF 19 2 1,
 oH 20 1 19,
 oF 21 1 1,
 oH 22 1 21,
 oO 23 (.call 33 [.t 20,.t 22]),
 oO 24 (.un .not (.t 23)),
 oT 25 24,
 ⟨some 26,.faddr 3 (.t 1),some (25,false)⟩,
 ⟨some 27,.load false 1 (.t 26),some (25,false)⟩,
 ⟨some 28,.faddr 1 (.t 1),some (25,false)⟩,
 ⟨some 29,.load false 1 (.t 28),some (25,false)⟩,
 ⟨some 30,.call 33 [.t 27,.t 29],some (25,false)⟩,
 ⟨some 31,.un .not (.t 30),some (25,false)⟩,
 oO 32 (.pick (.t 25) (.c (.bool true)) (.t 31))])
 (.cond (.t 32)
 (oR ([oM 2 (.c (oI 8))])
 .ret)
 .skip))
 (oR ([oF 33 4 1,
 oH 34 1 33,
 oF 35 0 1,
 oH 36 1 35,
 oF 37 1 1,
 oH 38 1 37,
 oO 39 (.call 34 [.t 34,.t 36,.t 38]),
 oT 2 39])
 .ret))))),
 [.tmp 2]⟩
def a9 : AFunc := ⟨7,
 oR ([oX 1 (.t 0),
 oM 2 (.c (oS))])
 (oR ([oG 3 5 1,
 oF 4 2 1,
 oH 5 1 4,
 oO 6 (.call 35 [.t 3,.t 5,(.c (.bool false))]),
 oT 2 6])
 .ret),
 [.tmp 2]⟩
def a10 : AFunc := ⟨7,
 oR ([oX 1 (.t 0),
 oM 2 (.c (oS))])
 (oR ([oG 3 5 1,
 oF 4 3 1,
 oH 5 1 4,
 oO 6 (.call 35 [.t 3,.t 5,(.c (.bool true))]),
 oT 2 6])
 .ret),
 [.tmp 2]⟩
def xOl : ACode :=
 .seq (oR ([oT 30 7,
 oF 31 2 1,
 oH 32 1 31,
 oN 33 32,
 oB 34 .lss 30 33])
 (.cond (.t 34)
 .skip
 (.exit 0)))
 (.seq (.block 1 (oR ([oT 37 5,
 oF 38 2 1,
 oH 39 1 38,
 oT 40 7,
 oO 41 (.iaddr 1 (.t 39) (.t 40)),
 oH 42 1 41,
 oO 43 (.call 39 [.t 37,.t 42]),
 oA 44 .geq 43 (.c (oI 0))])
 (.cond (.t 44)
 (.draw 9 [oF 45 2 6,
 oH 46 1 45,
 oT 47 5,
 oF 48 2 1,
 oH 49 1 48,
 oT 50 7,
 oO 51 (.iaddr 1 (.t 49) (.t 50)),
 oH 52 1 51,
 oO 53 (.call 39 [.t 47,.t 52]),
 oO 54 (.bslice true [oI 0] 1 1 [(0,.t 53)]),
 oO 55 (.append false 1 8 (.t 46) (.t 54)),
 oF 56 2 6,
 ⟨none,.store 1 (.t 56) (.t 55),none⟩])
 .skip)))
 (.region [oT 35 7,
 oA 36 .add 35 (.c (oI 1)),
 oT 7 36]))
def xZi : ACode := xOl
def xRe : List Nat := [0,3,4,8,9,10,11,12,13,14,15,16,17,18,19,20,21,22,23,24,25,26,27,28,29,30,31,32,33,34,35,36,37,38,39,40,41,42,43,44,45,46,47,48,49,50,51,52,53,54,55,56,57,58,59,60,61,62,63,64,65,66,67,68,69,70,71,72,73,74,75,76,77,78,79,80,81,82,83,84,85,86,87,88,89,90,91,92,93,94,95,96,97,98,99,100,101,102,103,104,105,106,107,108,109,110,111,112,113,114,115,116,117,118,119,120]
abbrev xRf (s1 s2 s5 s6 s7 : AV) : List AV := [oE,s1,s2,oE,oE,s5,s6,s7,oE,oE,oE,oE,oE,oE,oE,oE,oE,oE,oE,oE,oE,oE,oE,oE,oE,oE,oE,oE,oE,oE,oE,oE,oE,oE,oE,oE,oE,oE,oE,oE,oE,oE,oE,oE,oE,oE,oE,oE,oE,oE,oE,oE,oE,oE,oE,oE,oE,oE,oE,oE,oE,oE,oE,oE,oE,oE,oE,oE,oE,oE,oE,oE,oE,oE,oE,oE,oE,oE,oE,oE,oE,oE,oE,oE,oE,oE,oE,oE,oE,oE,oE,oE,oE,oE,oE,oE,oE,oE,oE,oE,oE,oE,oE,oE,oE,oE,oE,oE,oE,oE,oE,oE,oE,oE,oE,oE,oE,oE,oE,oE,oE]
theorem xRg (a b c d e f g h i j k l m n o p q r s t u v w x y z A B C D E F G H I J K L M N O P Q R S T U V W X Y Z a0 a1 a2 a3 a4 a5 a6 a7 a8 a9 b0 b1 b2 b3 b4 b5 b6 b7 b8 b9 c0 c1 c2 c3 c4 c5 c6 c7 c8 c9 d0 d1 d2 d3 d4 d5 d6 d7 d8 d9 e0 e1 e2 e3 e4 e5 e6 e7 e8 e9 f0 f1 f2 f3 f4 f5 f6 f7 f8 f9 g0 g1 g2 g3 g4 g5 g6 g7 g8 : AV) : xA6 xRe [a,b,c,d,e,f,g,h,i,j,k,l,m,n,o,p,q,r,s,t,u,v,w,x,y,z,A,B,C,D,E,F,G,H,I,J,K,L,M,N,O,P,Q,R,S,T,U,V,W,X,Y,Z,a0,a1,a2,a3,a4,a5,a6,a7,a8,a9,b0,b1,b2,b3,b4,b5,b6,b7,b8,b9,c0,c1,c2,c3,c4,c5,c6,c7,c8,c9,d0,d1,d2,d3,d4,d5,d6,d7,d8,d9,e0,e1,e2,e3,e4,e5,e6,e7,e8,e9,f0,f1,f2,f3,f4,f5,f6,f7,f8,f9,g0,g1,g2,g3,g4,g5,g6,g7,g8] = xRf b c f g h := by kernel_rfl
theorem xUd {prog : Nat → Option AFunc} (s1 s2 s5 s6 s7 : AV) (H : Heap) : (lim prog).loop xRe xZi ⟨xRf s1 s2 s5 s6 s7,H⟩ = xBv (lim prog) xRe xZi (run (lim prog) xOl ⟨xRf s1 s2 s5 s6 s7,H⟩) := xAN _ _ _ _ (by kernel_rfl)
def xOm : ACode :=
 .seq (oR ([oT 57 8,
 oF 58 3 1,
 oH 59 1 58,
 oN 60 59,
 oB 61 .lss 57 60])
 (.cond (.t 61)
 .skip
 (.exit 2)))
 (.seq (.block 3 (oR ([oT 64 5,
 oF 65 3 1,
 oH 66 1 65,
 oT 67 8,
 oO 68 (.iaddr 1 (.t 66) (.t 67)),
 oH 69 1 68,
 oO 70 (.call 39 [.t 64,.t 69]),
 oA 71 .geq 70 (.c (oI 0))])
 (.cond (.t 71)
 (.draw 9 [oF 72 3 6,
 oH 73 1 72,
 oT 74 5,
 oF 75 3 1,
 oH 76 1 75,
 oT 77 8,
 oO 78 (.iaddr 1 (.t 76) (.t 77)),
 oH 79 1 78,
 oO 80 (.call 39 [.t 74,.t 79]),
 oO 81 (.bslice true [oI 0] 1 1 [(0,.t 80)]),
 oO 82 (.append false 1 8 (.t 73) (.t 81)),
 oF 83 3 6,
 ⟨none,.store 1 (.t 83) (.t 82),none⟩])
 .skip)))
 (.region [oT 62 8,
 oA 63 .add 62 (.c (oI 1)),
 oT 8 63]))
def xZj : ACode := xOm
def xRh : List Nat := [0,3,4,7,9,10,11,12,13,14,15,16,17,18,19,20,21,22,23,24,25,26,27,28,29,30,31,32,33,34,35,36,37,38,39,40,41,42,43,44,45,46,47,48,49,50,51,52,53,54,55,56,57,58,59,60,61,62,63,64,65,66,67,68,69,70,71,72,73,74,75,76,77,78,79,80,81,82,83,84,85,86,87,88,89,90,91,92,93,94,95,96,97,98,99,100,101,102,103,104,105,106,107,108,109,110,111,112,113,114,115,116,117,118,119,120]
abbrev xRi (s1 s2 s5 s6 s8 : AV) : List AV := [oE,s1,s2,oE,oE,s5,s6,oE,s8,oE,oE,oE,oE,oE,oE,oE,oE,oE,oE,oE,oE,oE,oE,oE,oE,oE,oE,oE,oE,oE,oE,oE,oE,oE,oE,oE,oE,oE,oE,oE,oE,oE,oE,oE,oE,oE,oE,oE,oE,oE,oE,oE,oE,oE,oE,oE,oE,oE,oE,oE,oE,oE,oE,oE,oE,oE,oE,oE,oE,oE,oE,oE,oE,oE,oE,oE,oE,oE,oE,oE,oE,oE,oE,oE,oE,oE,oE,oE,oE,oE,oE,oE,oE,oE,oE,oE,oE,oE,oE,oE,oE,oE,oE,oE,oE,oE,oE,oE,oE,oE,oE,oE,oE,oE,oE,oE,oE,oE,oE,oE,oE]
theorem xRj (a b c d e f g h i j k l m n o p q r s t u v w x y z A B C D E F G H I J K L M N O P Q R S T U V W X Y Z a0 a1 a2 a3 a4 a5 a6 a7 a8 a9 b0 b1 b2 b3 b4 b5 b6 b7 b8 b9 c0 c1 c2 c3 c4 c5 c6 c7 c8 c9 d0 d1 d2 d3 d4 d5 d6 d7 d8 d9 e0 e1 e2 e3 e4 e5 e6 e7 e8 e9 f0 f1 f2 f3 f4 f5 f6 f7 f8 f9 g0 g1 g2 g3 g4 g5 g6 g7 g8 : AV) : xA6 xRh [a,b,c,d,e,f,g,h,i,j,k,l,m,n,o,p,q,r,s,t,u,v,w,x,y,z,A,B,C,D,E,F,G,H,I,J,K,L,M,N,O,P,Q,R,S,T,U,V,W,X,Y,Z,a0,a1,a2,a3,a4,a5,a6,a7,a8,a9,b0,b1,b2,b3,b4,b5,b6,b7,b8,b9,c0,c1,c2,c3,c4,c5,c6,c7,c8,c9,d0,d1,d2,d3,d4,d5,d6,d7,d8,d9,e0,e1,e2,e3,e4,e5,e6,e7,e8,e9,f0,f1,f2,f3,f4,f5,f6,f7,f8,f9,g0,g1,g2,g3,g4,g5,g6,g7,g8] = xRi b c f g i := by kernel_rfl
theorem xUe {prog : Nat → Option AFunc} (s1 s2 s5 s6 s8 : AV) (H : Heap) : (lim prog).loop xRh xZj ⟨xRi s1 s2 s5 s6 s8,H⟩ = xBv (lim prog) xRh xZj (run (lim prog) xOm ⟨xRi s1 s2 s5 s6 s8,H⟩) := xAN _ _ _ _ (by kernel_rfl)
def xNa : ACode :=
 .seq (oR ([oT 84 9,
 oF 85 4 1,
 oH 86 1 85,
 oN 87 86,
 oB 88 .lss 84 87])
 (.cond (.t 88)
 .skip
 (.exit 4)))
 (.seq (.block 5 (oR ([oF 91 4 1,
 oH 92 1 91,
 oT 93 9,
 oO 94 (.iaddr 4 (.t 92) (.t 93)),
 oG 95 4 94,
 oX 10 (.c (.agg [oI 0,oI 0,.int .u8 0,.int .u8 0])),
 ⟨none,.store 4 (.t 10) (.t 95),none⟩])
 (.seq (.draw 9 [oT 96 5,
 oF 97 0 10,
 oH 98 1 97,
 oO 99 (.call 39 [.t 96,.t 98]),
 oT 100 5,
 oF 101 1 10,
 oH 102 1 101,
 oO 103 (.call 39 [.t 100,.t 102]),
 oF 104 0 10,
 ⟨none,.store 1 (.t 104) (.t 99),none⟩,
 oF 105 1 10,
 ⟨none,.store 1 (.t 105) (.t 103),none⟩])
 (oR ([oF 106 0 10,
 oH 107 1 106,
 oA 108 .geq 107 (.c (oI 0)),
 oT 109 108,
 ⟨some 110,.faddr 1 (.t 10),some (109,true)⟩,
 ⟨some 111,.load false 1 (.t 110),some (109,true)⟩,
 ⟨some 112,.bin .geq (.t 111) (.c (oI 0)),some (109,true)⟩,
 oO 113 (.pick (.t 109) (.t 112) (.c (.bool false)))])
 (.cond (.t 113)
 (.region [oF 114 4 6,
 oH 115 1 114,
 oG 116 4 10,
 oO 117 (.bslice true [oI 0,oI 0,.int .u8 0,.int .u8 0] 4 1 [(0,.t 116)]),
 oO 118 (.append false 4 24 (.t 115) (.t 117)),
 oF 119 4 6,
 ⟨none,.store 1 (.t 119) (.t 118),none⟩])
 .skip)))))
 (.region [oT 89 9,
 oA 90 .add 89 (.c (oI 1)),
 oT 9 90]))
def xZk : ACode := xNa
def xRk : List Nat := [0,3,4,7,8,10,11,12,13,14,15,16,17,18,19,20,21,22,23,24,25,26,27,28,29,30,31,32,33,34,35,36,37,38,39,40,41,42,43,44,45,46,47,48,49,50,51,52,53,54,55,56,57,58,59,60,61,62,63,64,65,66,67,68,69,70,71,72,73,74,75,76,77,78,79,80,81,82,83,84,85,86,87,88,89,90,91,92,93,94,95,96,97,98,99,100,101,102,103,104,105,106,107,108,109,110,111,112,113,114,115,116,117,118,119,120]
abbrev xRl (s1 s2 s5 s6 s9 : AV) : List AV := [oE,s1,s2,oE,oE,s5,s6,oE,oE,s9,oE,oE,oE,oE,oE,oE,oE,oE,oE,oE,oE,oE,oE,oE,oE,oE,oE,oE,oE,oE,oE,oE,oE,oE,oE,oE,oE,oE,oE,oE,oE,oE,oE,oE,oE,oE,oE,oE,oE,oE,oE,oE,oE,oE,oE,oE,oE,oE,oE,oE,oE,oE,oE,oE,oE,oE,oE,oE,oE,oE,oE,oE,oE,oE,oE,oE,oE,oE,oE,oE,oE,oE,oE,oE,oE,oE,oE,oE,oE,oE,oE,oE,oE,oE,oE,oE,oE,oE,oE,oE,oE,oE,oE,oE,oE,oE,oE,oE,oE,oE,oE,oE,oE,oE,oE,oE,oE,oE,oE,oE,oE]
theorem xOn (a b c d e f g h i j k l m n o p q r s t u v w x y z A B C D E F G H I J K L M N O P Q R S T U V W X Y Z a0 a1 a2 a3 a4 a5 a6 a7 a8 a9 b0 b1 b2 b3 b4 b5 b6 b7 b8 b9 c0 c1 c2 c3 c4 c5 c6 c7 c8 c9 d0 d1 d2 d3 d4 d5 d6 d7 d8 d9 e0 e1 e2 e3 e4 e5 e6 e7 e8 e9 f0 f1 f2 f3 f4 f5 f6 f7 f8 f9 g0 g1 g2 g3 g4 g5 g6 g7 g8 : AV) : xA6 xRk [a,b,c,d,e,f,g,h,i,j,k,l,m,n,o,p,q,r,s,t,u,v,w,x,y,z,A,B,C,D,E,F,G,H,I,J,K,L,M,N,O,P,Q,R,S,T,U,V,W,X,Y,Z,a0,a1,a2,a3,a4,a5,a6,a7,a8,a9,b0,b1,b2,b3,b4,b5,b6,b7,b8,b9,c0,c1,c2,c3,c4,c5,c6,c7,c8,c9,d0,d1,d2,d3,d4,d5,d6,d7,d8,d9,e0,e1,e2,e3,e4,e5,e6,e7,e8,e9,f0,f1,f2,f3,f4,f5,f6,f7,f8,f9,g0,g1,g2,g3,g4,g5,g6,g7,g8] = xRl b c f g j := by kernel_rfl
theorem xRm {prog : Nat → Option AFunc} (s1 s2 s5 s6 s9 : AV) (H : Heap) : (lim prog).loop xRk xZk ⟨xRl s1 s2 s5 s6 s9,H⟩ = xBv (lim prog) xRk xZk (run (lim prog) xNa ⟨xRl s1 s2 s5 s6 s9,H⟩) := xAN _ _ _ _ (by kernel_rfl)
def a11 : AFunc := ⟨121,
 oR ([oX 1 (.t 0),
 oX 2 (.c (.agg [oI 0,oI 0,oS,oS,oS])),
 oM 3 (.c (oI 0))])
 (oR ([oG 11 5 1,
 oO 12 (.call 8 [.t 11]),
 oT 4 12])
 (.seq (oR ([oT 13 4,
 oA 14 .neq 13 (.c (oI 0))])
 (.cond (.t 14)
 (oR ([oO 15 (.build [oI 0,oI 0,oS,oS,oS] []),
 oT 16 4,
 ⟨none,.store 5 (.t 2) (.t 15),none⟩,
 oT 3 16])
 .ret)
 .skip))
 (.seq (.draw 4 [oG 17 5 1,
 oO 18 (.call 9 [.t 17]),
 oO 19 (.call 38 [.t 18]),
 oG 20 5 1,
 oO 21 (.call 10 [.t 20]),
 oO 22 (.call 38 [.t 21]),
 oO 23 (.call 37 [.t 19,.t 22]),
 oO 24 (.call 36 [.t 23]),
 oT 5 24])
 (oR ([oF 25 0 1,
 oH 26 1 25,
 oT 27 5,
 oN 28 27,
 oO 29 (.build [oI 0,oI 0,oS,oS,oS] [(0,1,.t 26),(1,1,.t 28)]),
 oX 6 (.c (.agg [oI 0,oI 0,oS,oS,oS])),
 ⟨none,.store 5 (.t 6) (.t 29),none⟩])
 (.seq (oR ([oM 7 (.c (oI 0))])
 (.block 0 (.loop xRe xZi)))
 (.seq (oR ([oM 8 (.c (oI 0))])
 (.block 2 (.loop xRh xZj)))
 (.seq (oR ([oM 9 (.c (oI 0))])
 (.block 4 (.loop xRk xZk)))
 (oR ([oG 120 5 6,
 ⟨none,.store 5 (.t 2) (.t 120),none⟩,
 oM 3 (.c (oI 0))])
 .ret)))))))),
 [.cell 2 true 5,.tmp 3]⟩
def xUf : ACode :=
 .seq (oR ([oT 22 6,
 oF 23 4 5,
 oH 24 1 23,
 oN 25 24,
 oB 26 .lss 22 25])
 (.cond (.t 26)
 .skip
 (.exit 0)))
 (.seq (.block 1 (oR ([oF 29 4 5,
 oH 30 1 29,
 oT 31 6,
 oO 32 (.iaddr 4 (.t 30) (.t 31)),
 oG 33 4 32,
 oX 7 (.c (.agg [oI 0,oI 0,.int .u8 0,.int .u8 0])),
 ⟨none,.store 4 (.t 7) (.t 33),none⟩])
 (.region [oF 34 4 5,
 oH 35 1 34,
 oT 36 6,
 oF 37 1 7,
 oH 38 1 37,
 oF 39 0 7,
 oH 40 1 39,
 oF 41 2 7,
 oH 42 1 41,
 oF 43 3 7,
 oH 44 1 43,
 oO 45 (.build [oI 0,oI 0,.int .u8 0,.int .u8 0] [(0,1,.t 38),(1,1,.t 40),(2,1,.t 42),(3,1,.t 44)]),
 oO 46 (.iaddr 4 (.t 35) (.t 36)),
 ⟨none,.store 4 (.t 46) (.t 45),none⟩])))
 (.region [oT 27 6,
 oA 28 .add 27 (.c (oI 1)),
 oT 6 28]))
def xW4 : ACode := xUf
def xOo : List Nat := [0,1,3,4,7,8,9,10,11,12,13,14,15,16,17,18,19,20,21,22,23,24,25,26,27,28,29,30,31,32,33,34,35,36,37,38,39,40,41,42,43,44,45,46,47]
abbrev xOp (s2 s5 s6 : AV) : List AV := [oE,oE,s2,oE,oE,s5,s6,oE,oE,oE,oE,oE,oE,oE,oE,oE,oE,oE,oE,oE,oE,oE,oE,oE,oE,oE,oE,oE,oE,oE,oE,oE,oE,oE,oE,oE,oE,oE,oE,oE,oE,oE,oE,oE,oE,oE,oE,oE]
theorem xW5 (a b c d e f g h i j k l m n o p q r s t u v w x y z A B C D E F G H I J K L M N O P Q R S T U V : AV) : xA6 xOo [a,b,c,d,e,f,g,h,i,j,k,l,m,n,o,p,q,r,s,t,u,v,w,x,y,z,A,B,C,D,E,F,G,H,I,J,K,L,M,N,O,P,Q,R,S,T,U,V] = xOp c f g := by kernel_rfl
theorem yAo {prog : Nat → Option AFunc} (s2 s5 s6 : AV) (H : Heap) : (lim prog).loop xOo xW4 ⟨xOp s2 s5 s6,H⟩ = xBv (lim prog) xOo xW4 (run (lim prog) xUf ⟨xOp s2 s5 s6,H⟩) := xAN _ _ _ _ (by kernel_rfl)
def a12 : AFunc := ⟨48,
 oR ([oX 1 (.t 0),
 oX 2 (.c (.agg [oI 0,oI 0,oS,oS,oS])),
 oM 3 (.c (oI 0))])
 (oR ([oG 8 5 1,
 oO 9 (.call 8 [.t 8]),
 oT 4 9])
 (.seq (oR ([oT 10 4,
 oA 11 .neq 10 (.c (oI 0))])
 (.cond (.t 11)
 (oR ([oO 12 (.build [oI 0,oI 0,oS,oS,oS] []),
 oT 13 4,
 ⟨none,.store 5 (.t 2) (.t 12),none⟩,
 oT 3 13])
 .ret)
 .skip))
 (oR ([oG 14 5 1,
 oO 15 (.ocall 14 [.t 14]),
 oX 5 (.c (.agg [oI 0,oI 0,oS,oS,oS])),
 ⟨none,.store 5 (.t 5) (.t 15),none⟩])
 (oR ([oF 16 3 5,
 oH 17 1 16,
 oF 18 2 5,
 oH 19 1 18,
 oF 20 2 5,
 ⟨none,.store 1 (.t 20) (.t 17),none⟩,
 oF 21 3 5,
 ⟨none,.store 1 (.t 21) (.t 19),none⟩])
 (.seq (oR ([oM 6 (.c (oI 0))])
 (.block 0 (.loop xOo xW4)))
 (oR ([oG 47 5 5,
 ⟨none,.store 5 (.t 2) (.t 47),none⟩,
 oM 3 (.c (oI 0))])
 .ret)))))),
 [.cell 2 true 5,.tmp 3]⟩
def xUg : ACode :=
 .seq (oR ([oT 53 8,
 oF 54 2 3,
 oH 55 1 54,
 oN 56 55,
 oB 57 .lss 53 56])
 (.cond (.t 57)
 .skip
 (.exit 0)))
 (.seq (.block 1 (.draw 6 [oF 60 2 7,
 oH 61 1 60,
 oF 62 1 2,
 oH 63 1 62,
 oF 64 2 3,
 oH 65 1 64,
 oT 66 8,
 oO 67 (.iaddr 1 (.t 65) (.t 66)),
 oH 68 1 67,
 oB 69 .add 63 68,
 oO 70 (.bslice true [oI 0] 1 1 [(0,.t 69)]),
 oO 71 (.append false 1 8 (.t 61) (.t 70)),
 oF 72 2 7,
 ⟨none,.store 1 (.t 72) (.t 71),none⟩]))
 (.region [oT 58 8,
 oA 59 .add 58 (.c (oI 1)),
 oT 8 59]))
def xZl : ACode := xUg
def xRn : List Nat := [0,1,5,6,9,10,11,12,13,14,15,16,17,18,19,20,21,22,23,24,25,26,27,28,29,30,31,32,33,34,35,36,37,38,39,40,41,42,43,44,45,46,47,48,49,50,51,52,53,54,55,56,57,58,59,60,61,62,63,64,65,66,67,68,69,70,71,72,73,74,75,76,77,78,79,80,81,82,83,84,85,86,87,88,89,90,91,92,93,94,95,96,97,98,99,100,101,102,103,104,105,106,107,108,109,110,111,112,113,114,115,116,117,118,119,120,121,122,123,124,125]
abbrev xRo (s2 s3 s4 s7 s8 : AV) : List AV := [oE,oE,s2,s3,s4,oE,oE,s7,s8,oE,oE,oE,oE,oE,oE,oE,oE,oE,oE,oE,oE,oE,oE,oE,oE,oE,oE,oE,oE,oE,oE,oE,oE,oE,oE,oE,oE,oE,oE,oE,oE,oE,oE,oE,oE,oE,oE,oE,oE,oE,oE,oE,oE,oE,oE,oE,oE,oE,oE,oE,oE,oE,oE,oE,oE,oE,oE,oE,oE,oE,oE,oE,oE,oE,oE,oE,oE,oE,oE,oE,oE,oE,oE,oE,oE,oE,oE,oE,oE,oE,oE,oE,oE,oE,oE,oE,oE,oE,oE,oE,oE,oE,oE,oE,oE,oE,oE,oE,oE,oE,oE,oE,oE,oE,oE,oE,oE,oE,oE,oE,oE,oE,oE,oE,oE,oE]
theorem xW6 (a b c d e f g h i j k l m n o p q r s t u v w x y z A B C D E F G H I J K L M N O P Q R S T U V W X Y Z a0 a1 a2 a3 a4 a5 a6 a7 a8 a9 b0 b1 b2 b3 b4 b5 b6 b7 b8 b9 c0 c1 c2 c3 c4 c5 c6 c7 c8 c9 d0 d1 d2 d3 d4 d5 d6 d7 d8 d9 e0 e1 e2 e3 e4 e5 e6 e7 e8 e9 f0 f1 f2 f3 f4 f5 f6 f7 f8 f9 g0 g1 g2 g3 g4 g5 g6 g7 g8 g9 h0 h1 h2 h3 : AV) : xA6 xRn [a,b,c,d,e,f,g,h,i,j,k,l,m,n,o,p,q,r,s,t,u,v,w,x,y,z,A,B,C,D,E,F,G,H,I,J,K,L,M,N,O,P,Q,R,S,T,U,V,W,X,Y,Z,a0,a1,a2,a3,a4,a5,a6,a7,a8,a9,b0,b1,b2,b3,b4,b5,b6,b7,b8,b9,c0,c1,c2,c3,c4,c5,c6,c7,c8,c9,d0,d1,d2,d3,d4,d5,d6,d7,d8,d9,e0,e1,e2,e3,e4,e5,e6,e7,e8,e9,f0,f1,f2,f3,f4,f5,f6,f7,f8,f9,g0,g1,g2,g3,g4,g5,g6,g7,g8,g9,h0,h1,h2,h3] = xRo c d e h i := by kernel_rfl
theorem yAp {prog : Nat → Option AFunc} (s2 s3 s4 s7 s8 : AV) (H : Heap) : (lim prog).loop xRn xZl ⟨xRo s2 s3 s4 s7 s8,H⟩ = xBv (lim prog) xRn xZl (run (lim prog) xUg ⟨xRo s2 s3 s4 s7 s8,H⟩) := xAN _ _ _ _ (by kernel_rfl)
def xUh : ACode :=
 .seq (oR ([oT 73 9,
 oF 74 3 3,
 oH 75 1 74,
 oN 76 75,
 oB 77 .lss 73 76])
 (.cond (.t 77)
 .skip
 (.exit 2)))
 (.seq (.block 3 (.draw 6 [oF 80 3 7,
 oH 81 1 80,
 oF 82 1 2,
 oH 83 1 82,
 oF 84 3 3,
 oH 85 1 84,
 oT 86 9,
 oO 87 (.iaddr 1 (.t 85) (.t 86)),
 oH 88 1 87,
 oB 89 .add 83 88,
 oO 90 (.bslice true [oI 0] 1 1 [(0,.t 89)]),
 oO 91 (.append false 1 8 (.t 81) (.t 90)),
 oF 92 3 7,
 ⟨none,.store 1 (.t 92) (.t 91),none⟩]))
 (.region [oT 78 9,
 oA 79 .add 78 (.c (oI 1)),
 oT 9 79]))
def xZm : ACode := xUh
def xRp : List Nat := [0,1,5,6,8,10,11,12,13,14,15,16,17,18,19,20,21,22,23,24,25,26,27,28,29,30,31,32,33,34,35,36,37,38,39,40,41,42,43,44,45,46,47,48,49,50,51,52,53,54,55,56,57,58,59,60,61,62,63,64,65,66,67,68,69,70,71,72,73,74,75,76,77,78,79,80,81,82,83,84,85,86,87,88,89,90,91,92,93,94,95,96,97,98,99,100,101,102,103,104,105,106,107,108,109,110,111,112,113,114,115,116,117,118,119,120,121,122,123,124,125]
abbrev xRq (s2 s3 s4 s7 s9 : AV) : List AV := [oE,oE,s2,s3,s4,oE,oE,s7,oE,s9,oE,oE,oE,oE,oE,oE,oE,oE,oE,oE,oE,oE,oE,oE,oE,oE,oE,oE,oE,oE,oE,oE,oE,oE,oE,oE,oE,oE,oE,oE,oE,oE,oE,oE,oE,oE,oE,oE,oE,oE,oE,oE,oE,oE,oE,oE,oE,oE,oE,oE,oE,oE,oE,oE,oE,oE,oE,oE,oE,oE,oE,oE,oE,oE,oE,oE,oE,oE,oE,oE,oE,oE,oE,oE,oE,oE,oE,oE,oE,oE,oE,oE,oE,oE,oE,oE,oE,oE,oE,oE,oE,oE,oE,oE,oE,oE,oE,oE,oE,oE,oE,oE,oE,oE,oE,oE,oE,oE,oE,oE,oE,oE,oE,oE,oE,oE]
theorem xW7 (a b c d e f g h i j k l m n o p q r s t u v w x y z A B C D E F G H I J K L M N O P Q R S T U V W X Y Z a0 a1 a2 a3 a4 a5 a6 a7 a8 a9 b0 b1 b2 b3 b4 b5 b6 b7 b8 b9 c0 c1 c2 c3 c4 c5 c6 c7 c8 c9 d0 d1 d2 d3 d4 d5 d6 d7 d8 d9 e0 e1 e2 e3 e4 e5 e6 e7 e8 e9 f0 f1 f2 f3 f4 f5 f6 f7 f8 f9 g0 g1 g2 g3 g4 g5 g6 g7 g8 g9 h0 h1 h2 h3 : AV) : xA6 xRp [a,b,c,d,e,f,g,h,i,j,k,l,m,n,o,p,q,r,s,t,u,v,w,x,y,z,A,B,C,D,E,F,G,H,I,J,K,L,M,N,O,P,Q,R,S,T,U,V,W,X,Y,Z,a0,a1,a2,a3,a4,a5,a6,a7,a8,a9,b0,b1,b2,b3,b4,b5,b6,b7,b8,b9,c0,c1,c2,c3,c4,c5,c6,c7,c8,c9,d0,d1,d2,d3,d4,d5,d6,d7,d8,d9,e0,e1,e2,e3,e4,e5,e6,e7,e8,e9,f0,f1,f2,f3,f4,f5,f6,f7,f8,f9,g0,g1,g2,g3,g4,g5,g6,g7,g8,g9,h0,h1,h2,h3] = xRq c d e h j := by kernel_rfl
theorem yAq {prog : Nat → Option AFunc} (s2 s3 s4 s7 s9 : AV) (H : Heap) : (lim prog).loop xRp xZm ⟨xRq s2 s3 s4 s7 s9,H⟩ = xBv (lim prog) xRp xZm (run (lim prog) xUh ⟨xRq s2 s3 s4 s7 s9,H⟩) := xAN _ _ _ _ (by kernel_rfl)
def xUi : ACode :=
 .seq (oR ([oT 93 10,
 oF 94 4 3,
 oH 95 1 94,
 oN 96 95,
 oB 97 .lss 93 96])
 (.cond (.t 97)
 .skip
 (.exit 4)))
 (.seq (.block 5 (oR ([oF 100 4 3,
 oH 101 1 100,
 oT 102 10,
 oO 103 (.iaddr 4 (.t 101) (.t 102)),
 oG 104 4 103,
 oX 11 (.c (.agg [oI 0,oI 0,.int .u8 0,.int .u8 0])),
 ⟨none,.store 4 (.t 11) (.t 104),none⟩])
 (.region [oF 105 4 7,
 oH 106 1 105,
 oF 107 1 2,
 oH 108 1 107,
 oF 109 0 11,
 oH 110 1 109,
 oB 111 .add 108 110,
 oF 112 1 2,
 oH 113 1 112,
 oF 114 1 11,
 oH 115 1 114,
 oB 116 .add 113 115,
 oF 117 2 11,
 oH 118 1 117,
 oF 119 3 11,
 oH 120 1 119,
 oO 121 (.build [oI 0,oI 0,.int .u8 0,.int .u8 0] [(0,1,.t 111),(1,1,.t 116),(2,1,.t 118),(3,1,.t 120)]),
 oO 122 (.bslice true [oI 0,oI 0,.int .u8 0,.int .u8 0] 4 1 [(0,.t 121)]),
 oO 123 (.append false 4 24 (.t 106) (.t 122)),
 oF 124 4 7,
 ⟨none,.store 1 (.t 124) (.t 123),none⟩])))
 (.region [oT 98 10,
 oA 99 .add 98 (.c (oI 1)),
 oT 10 99]))
def xZn : ACode := xUi
def xRr : List Nat := [0,1,5,6,8,9,11,12,13,14,15,16,17,18,19,20,21,22,23,24,25,26,27,28,29,30,31,32,33,34,35,36,37,38,39,40,41,42,43,44,45,46,47,48,49,50,51,52,53,54,55,56,57,58,59,60,61,62,63,64,65,66,67,68,69,70,71,72,73,74,75,76,77,78,79,80,81,82,83,84,85,86,87,88,89,90,91,92,93,94,95,96,97,98,99,100,101,102,103,104,105,106,107,108,109,110,111,112,113,114,115,116,117,118,119,120,121,122,123,124,125]
abbrev xRs (s2 s3 s4 s7 s10 : AV) : List AV := [oE,oE,s2,s3,s4,oE,oE,s7,oE,oE,s10,oE,oE,oE,oE,oE,oE,oE,oE,oE,oE,oE,oE,oE,oE,oE,oE,oE,oE,oE,oE,oE,oE,oE,oE,oE,oE,oE,oE,oE,oE,oE,oE,oE,oE,oE,oE,oE,oE,oE,oE,oE,oE,oE,oE,oE,oE,oE,oE,oE,oE,oE,oE,oE,oE,oE,oE,oE,oE,oE,oE,oE,oE,oE,oE,oE,oE,oE,oE,oE,oE,oE,oE,oE,oE,oE,oE,oE,oE,oE,oE,oE,oE,oE,oE,oE,oE,oE,oE,oE,oE,oE,oE,oE,oE,oE,oE,oE,oE,oE,oE,oE,oE,oE,oE,oE,oE,oE,oE,oE,oE,oE,oE,oE,oE,oE]
theorem xW8 (a b c d e f g h i j k l m n o p q r s t u v w x y z A B C D E F G H I J K L M N O P Q R S T U V W X Y Z a0 a1 a2 a3 a4 a5 a6 a7 a8 a9 b0 b1 b2 b3 b4 b5 b6 b7 b8 b9 c0 c1 c2 c3 c4 c5 c6 c7 c8 c9 d0 d1 d2 d3 d4 d5 d6 d7 d8 d9 e0 e1 e2 e3 e4 e5 e6 e7 e8 e9 f0 f1 f2 f3 f4 f5 f6 f7 f8 f9 g0 g1 g2 g3 g4 g5 g6 g7 g8 g9 h0 h1 h2 h3 : AV) : xA6 xRr [a,b,c,d,e,f,g,h,i,j,k,l,m,n,o,p,q,r,s,t,u,v,w,x,y,z,A,B,C,D,E,F,G,H,I,J,K,L,M,N,O,P,Q,R,S,T,U,V,W,X,Y,Z,a0,a1,a2,a3,a4,a5,a6,a7,a8,a9,b0,b1,b2,b3,b4,b5,b6,b7,b8,b9,c0,c1,c2,c3,c4,c5,c6,c7,c8,c9,d0,d1,d2,d3,d4,d5,d6,d7,d8,d9,e0,e1,e2,e3,e4,e5,e6,e7,e8,e9,f0,f1,f2,f3,f4,f5,f6,f7,f8,f9,g0,g1,g2,g3,g4,g5,g6,g7,g8,g9,h0,h1,h2,h3] = xRs c d e h k := by kernel_rfl
theorem yAr {prog : Nat → Option AFunc} (s2 s3 s4 s7 s10 : AV) (H : Heap) : (lim prog).loop xRr xZn ⟨xRs s2 s3 s4 s7 s10,H⟩ = xBv (lim prog) xRr xZn (run (lim prog) xUi ⟨xRs s2 s3 s4 s7 s10,H⟩) := xAN _ _ _ _ (by kernel_rfl)
def a13 : AFunc := ⟨126,
 oR ([oX 2 (.t 0),
 oX 3 (.t 1),
 oX 4 (.c (.agg [oI 0,oI 0,oS,oS,oS])),
 oM 5 (.c (oI 0))])
 (oR ([oG 12 5 2,
 oO 13 (.call 8 [.t 12]),
 oT 6 13])
 (.seq (oR ([oT 14 6,
 oA 15 .eql 14 (.c (oI 0))])
 (.cond (.t 15)
 (.region [oG 16 5 3,
 oO 17 (.call 8 [.t 16]),
 oT 6 17])
 .skip))
 (.seq (oR ([oT 18 6,
 oA 19 .neq 18 (.c (oI 0))])
 (.cond (.t 19)
 (oR ([oO 20 (.build [oI 0,oI 0,oS,oS,oS] []),
 oT 21 6,
 ⟨none,.store 5 (.t 4) (.t 20),none⟩,
 oT 5 21])
 .ret)
 .skip))
 (.seq (oR ([oF 22 0 2,
 oH 23 1 22,
 oF 24 0 3,
 oH 25 1 24,
 oB 26 .neq 23 25])
 (.cond (.t 26)
 (oR ([oO 27 (.build [oI 0,oI 0,oS,oS,oS] []),
 ⟨none,.store 5 (.t 4) (.t 27),none⟩,
 oM 5 (.c (oI 7))])
 .ret)
 .skip))
 (.seq (oR ([oF 28 1 2,
 oH 29 1 28,
 oF 30 1 3,
 oH 31 1 30,
 oB 32 .add 29 31,
 oA 33 .gtr 32 (.c (oI 64)),
 oT 34 33,
 ⟨some 35,.faddr 4 (.t 2),some (34,false)⟩,
 ⟨some 36,.load false 1 (.t 35),some (34,false)⟩,
 ⟨some 37,.len (.t 36),some (34,false)⟩,
 ⟨some 38,.faddr 4 (.t 3),some (34,false)⟩,
 ⟨some 39,.load false 1 (.t 38),some (34,false)⟩,
 ⟨some 40,.len (.t 39),some (34,false)⟩,
 ⟨some 41,.bin .add (.t 37) (.t 40),some (34,false)⟩,
 ⟨some 42,.bin .gtr (.t 41) (.c (oI 512)),some (34,false)⟩,
 oO 43 (.pick (.t 34) (.c (.bool true)) (.t 42))])
 (.cond (.t 43)
 (oR ([oO 44 (.build [oI 0,oI 0,oS,oS,oS] []),
 ⟨none,.store 5 (.t 4) (.t 44),none⟩,
 oM 5 (.c (oI 4))])
 .ret)
 .skip))
 (oR ([oG 45 5 2,
 oO 46 (.ocall 14 [.t 45]),
 oX 7 (.c (.agg [oI 0,oI 0,oS,oS,oS])),
 ⟨none,.store 5 (.t 7) (.t 46),none⟩])
 (oR ([oF 47 1 2,
 oH 48 1 47,
 oF 49 1 3,
 oH 50 1 49,
 oB 51 .add 48 50,
 oF 52 1 7,
 ⟨none,.store 1 (.t 52) (.t 51),none⟩])
 (.seq (oR ([oM 8 (.c (oI 0))])
 (.block 0 (.loop xRn xZl)))
 (.seq (oR ([oM 9 (.c (oI 0))])
 (.block 2 (.loop xRp xZm)))
 (.seq (oR ([oM 10 (.c (oI 0))])
 (.block 4 (.loop xRr xZn)))
 (oR ([oG 125 5 7,
 ⟨none,.store 5 (.t 4) (.t 125),none⟩,
 oM 5 (.c (oI 0))])
 .ret))))))))))),
 [.cell 4 true 5,.tmp 5]⟩
def a14 : AFunc := ⟨17,
 oR ([oX 1 (.t 0),
 oX 2 (.c (.agg [oI 0,oI 0,oS,oS,oS]))])
 (.seq (.drawp [] [] 13 [oF 3 0 1,
 oH 4 1 3,
 oF 5 1 1,
 oH 6 1 5,
 oF 7 2 1,
 oH 8 1 7,
 oO 9 (.ocall 40 [.t 8]),
 oF 10 3 1,
 oH 11 1 10,
 oO 12 (.ocall 40 [.t 11]),
 oF 13 4 1,
 oH 14 1 13,
 oO 15 (.ocall 41 [.t 14]),
 oO 16 (.build [oI 0,oI 0,oS,oS,oS] [(0,1,.t 4),(1,1,.t 6),(2,1,.t 9),(3,1,.t 12),(4,1,.t 15)]),
 ⟨none,.store 5 (.t 2) (.t 16),none⟩])
 .ret),
 [.cell 2 true 5]⟩
def a15 : AFunc := ⟨16,
 oR ([oX 1 (.t 0),
 oM 2 (.c (oS)),
 oM 3 (.c (oI 0))])
 (.seq (oR ([oG 5 5 1,
 oO 6 (.call 26 [.t 5]),
 oT 4 6])
 (oR ([oT 7 4,
 oA 8 .neq 7 (.c (oI 0))])
 (.cond (.t 8)
 (oR ([oT 9 4,
 oM 2 (.c (oS)),
 oT 3 9])
 .ret)
 .skip)))
 (.seq (.drawp [] [] 5 [oF 10 2 1,
 oH 11 1 10,
 oO 12 (.ocall 43 [.t 11]),
 oF 13 4 1,
 oH 14 1 13,
 oO 15 (.icall (.c (.func 42 [])) [.t 12,.t 14]),
 oT 2 15,
 oM 3 (.c (oI 0))])
 .ret)),
 [.tmp 2,.tmp 3]⟩
def a16 : AFunc := ⟨18,
 oR ([oX 1 (.t 0),
 oM 2 (.c (oS)),
 oM 3 (.c (oI 0))])
 (oR ([oG 7 5 1,
 oO 8 (.call 18 [.t 7]),
 oT 6 8,
 oO 9 (.ext 0 (.t 6)),
 oO 10 (.ext 1 (.t 6)),
 oX 4 (.c (.agg [oI 0,oI 0,oS,oS,oS])),
 ⟨none,.store 5 (.t 4) (.t 9),none⟩,
 oT 5 10])
 (.seq (oR ([oT 11 5,
 oA 12 .neq 11 (.c (oI 0))])
 (.cond (.t 12)
 (oR ([oT 13 5,
 oM 2 (.c (oS)),
 oT 3 13])
 .ret)
 .skip))
 (oR ([oG 14 5 4,
 oO 15 (.ocall 15 [.t 14]),
 oO 16 (.ext 0 (.t 15)),
 oO 17 (.ext 1 (.t 15)),
 oT 2 16,
 oT 3 17])
 .ret))),
 [.tmp 2,.tmp 3]⟩
def xOq : ACode :=
 oR ([oB 52 .lss 51 50])
 (.seq (.cond (.t 52)
 .skip
 (.exit 0))
 (.seq (.block 1 (oR ([oO 53 (.iaddr 1 (.t 49) (.t 51)),
 oH 54 1 53,
 oT 10 54])
 (oR ([oT 56 8,
 oT 57 10,
 oO 58 (.icall (.t 56) [.t 57]),
 oT 55 58,
 oO 59 (.ext 0 (.t 55)),
 oO 60 (.ext 1 (.t 55)),
 oT 11 59,
 oT 12 60])
 (oR ([oT 61 12])
 (.cond (.t 61)
 (.region [oF 62 2 2,
 oH 63 1 62,
 oT 64 11,
 oO 65 (.bslice true [oI 0] 1 1 [(0,.t 64)]),
 oO 66 (.append false 1 8 (.t 63) (.t 65)),
 oF 67 2 2,
 ⟨none,.store 1 (.t 67) (.t 66),none⟩])
 .skip)))))
 (.region [oA 68 .add 51 (.c (oI 1)),
 oT 51 68])))
def xZo : ACode := xOq
def xRt : List Nat := [0,3,4,5,6,7,9,10,11,12,13,14,15,16,17,18,19,20,21,22,23,24,25,26,27,28,29,30,31,32,33,34,35,36,37,38,39,40,41,42,43,44,45,46,47,48,52,53,54,55,56,57,58,59,60,61,62,63,64,65,66,67,68,69,70,71,72,73,74,75,76,77,78,79,80,81,82,83,84,85,86,87,88,89,90,91,92,93,94,95,96,97,98,99,100,101,102,103,104,105,106,107,108,109,110,111,112,113,114,115,116,117,118,119,120,121,122,123,124,125,126,127,128]
abbrev xRu (s1 s2 s8 s49 s50 s51 : AV) : List AV := [oE,s1,s2,oE,oE,oE,oE,oE,s8,oE,oE,oE,oE,oE,oE,oE,oE,oE,oE,oE,oE,oE,oE,oE,oE,oE,oE,oE,oE,oE,oE,oE,oE,oE,oE,oE,oE,oE,oE,oE,oE,oE,oE,oE,oE,oE,oE,oE,oE,s49,s50,s51,oE,oE,oE,oE,oE,oE,oE,oE,oE,oE,oE,oE,oE,oE,oE,oE,oE,oE,oE,oE,oE,oE,oE,oE,oE,oE,oE,oE,oE,oE,oE,oE,oE,oE,oE,oE,oE,oE,oE,oE,oE,oE,oE,oE,oE,oE,oE,oE,oE,oE,oE,oE,oE,oE,oE,oE,oE,oE,oE,oE,oE,oE,oE,oE,oE,oE,oE,oE,oE,oE,oE,oE,oE,oE,oE,oE,oE]
theorem xRv (a b c d e f g h i j k l m n o p q r s t u v w x y z A B C D E F G H I J K L M N O P Q R S T U V W X Y Z a0 a1 a2 a3 a4 a5 a6 a7 a8 a9 b0 b1 b2 b3 b4 b5 b6 b7 b8 b9 c0 c1 c2 c3 c4 c5 c6 c7 c8 c9 d0 d1 d2 d3 d4 d5 d6 d7 d8 d9 e0 e1 e2 e3 e4 e5 e6 e7 e8 e9 f0 f1 f2 f3 f4 f5 f6 f7 f8 f9 g0 g1 g2 g3 g4 g5 g6 g7 g8 g9 h0 h1 h2 h3 h4 h5 h6 : AV) : xA6 xRt [a,b,c,d,e,f,g,h,i,j,k,l,m,n,o,p,q,r,s,t,u,v,w,x,y,z,A,B,C,D,E,F,G,H,I,J,K,L,M,N,O,P,Q,R,S,T,U,V,W,X,Y,Z,a0,a1,a2,a3,a4,a5,a6,a7,a8,a9,b0,b1,b2,b3,b4,b5,b6,b7,b8,b9,c0,c1,c2,c3,c4,c5,c6,c7,c8,c9,d0,d1,d2,d3,d4,d5,d6,d7,d8,d9,e0,e1,e2,e3,e4,e5,e6,e7,e8,e9,f0,f1,f2,f3,f4,f5,f6,f7,f8,f9,g0,g1,g2,g3,g4,g5,g6,g7,g8,g9,h0,h1,h2,h3,h4,h5,h6] = xRu b c i X Y Z := by kernel_rfl
theorem xUj {prog : Nat → Option AFunc} (s1 s2 s8 s49 s50 s51 : AV) (H : Heap) : (lim prog).loop xRt xZo ⟨xRu s1 s2 s8 s49 s50 s51,H⟩ = xBv (lim prog) xRt xZo (run (lim prog) xOq ⟨xRu s1 s2 s8 s49 s50 s51,H⟩) := xAN _ _ _ _ (by kernel_rfl)
def xOr : ACode :=
 oR ([oB 73 .lss 72 71])
 (.seq (.cond (.t 73)
 .skip
 (.exit 2))
 (.seq (.block 3 (oR ([oO 74 (.iaddr 1 (.t 70) (.t 72)),
 oH 75 1 74,
 oT 14 75])
 (oR ([oT 77 8,
 oT 78 14,
 oO 79 (.icall (.t 77) [.t 78]),
 oT 76 79,
 oO 80 (.ext 0 (.t 76)),
 oO 81 (.ext 1 (.t 76)),
 oT 15 80,
 oT 16 81])
 (oR ([oT 82 16])
 (.cond (.t 82)
 (.region [oF 83 3 2,
 oH 84 1 83,
 oT 85 15,
 oO 86 (.bslice true [oI 0] 1 1 [(0,.t 85)]),
 oO 87 (.append false 1 8 (.t 84) (.t 86)),
 oF 88 3 2,
 ⟨none,.store 1 (.t 88) (.t 87),none⟩])
 .skip)))))
 (.region [oA 89 .add 72 (.c (oI 1)),
 oT 72 89])))
def xZp : ACode := xOr
def xRw : List Nat := [0,3,4,5,6,7,9,10,11,12,13,14,15,16,17,18,19,20,21,22,23,24,25,26,27,28,29,30,31,32,33,34,35,36,37,38,39,40,41,42,43,44,45,46,47,48,49,50,51,52,53,54,55,56,57,58,59,60,61,62,63,64,65,66,67,68,69,73,74,75,76,77,78,79,80,81,82,83,84,85,86,87,88,89,90,91,92,93,94,95,96,97,98,99,100,101,102,103,104,105,106,107,108,109,110,111,112,113,114,115,116,117,118,119,120,121,122,123,124,125,126,127,128]
abbrev xRx (s1 s2 s8 s70 s71 s72 : AV) : List AV := [oE,s1,s2,oE,oE,oE,oE,oE,s8,oE,oE,oE,oE,oE,oE,oE,oE,oE,oE,oE,oE,oE,oE,oE,oE,oE,oE,oE,oE,oE,oE,oE,oE,oE,oE,oE,oE,oE,oE,oE,oE,oE,oE,oE,oE,oE,oE,oE,oE,oE,oE,oE,oE,oE,oE,oE,oE,oE,oE,oE,oE,oE,oE,oE,oE,oE,oE,oE,oE,oE,s70,s71,s72,oE,oE,oE,oE,oE,oE,oE,oE,oE,oE,oE,oE,oE,oE,oE,oE,oE,oE,oE,oE,oE,oE,oE,oE,oE,oE,oE,oE,oE,oE,oE,oE,oE,oE,oE,oE,oE,oE,oE,oE,oE,oE,oE,oE,oE,oE,oE,oE,oE,oE,oE,oE,oE,oE,oE,oE]
theorem xRy (a b c d e f g h i j k l m n o p q r s t u v w x y z A B C D E F G H I J K L M N O P Q R S T U V W X Y Z a0 a1 a2 a3 a4 a5 a6 a7 a8 a9 b0 b1 b2 b3 b4 b5 b6 b7 b8 b9 c0 c1 c2 c3 c4 c5 c6 c7 c8 c9 d0 d1 d2 d3 d4 d5 d6 d7 d8 d9 e0 e1 e2 e3 e4 e5 e6 e7 e8 e9 f0 f1 f2 f3 f4 f5 f6 f7 f8 f9 g0 g1 g2 g3 g4 g5 g6 g7 g8 g9 h0 h1 h2 h3 h4 h5 h6 : AV) : xA6 xRw [a,b,c,d,e,f,g,h,i,j,k,l,m,n,o,p,q,r,s,t,u,v,w,x,y,z,A,B,C,D,E,F,G,H,I,J,K,L,M,N,O,P,Q,R,S,T,U,V,W,X,Y,Z,a0,a1,a2,a3,a4,a5,a6,a7,a8,a9,b0,b1,b2,b3,b4,b5,b6,b7,b8,b9,c0,c1,c2,c3,c4,c5,c6,c7,c8,c9,d0,d1,d2,d3,d4,d5,d6,d7,d8,d9,e0,e1,e2,e3,e4,e5,e6,e7,e8,e9,f0,f1,f2,f3,f4,f5,f6,f7,f8,f9,g0,g1,g2,g3,g4,g5,g6,g7,g8,g9,h0,h1,h2,h3,h4,h5,h6] = xRx b c i b8 b9 c0 := by kernel_rfl
theorem xUk {prog : Nat → Option AFunc} (s1 s2 s8 s70 s71 s72 : AV) (H : Heap) : (lim prog).loop xRw xZp ⟨xRx s1 s2 s8 s70 s71 s72,H⟩ = xBv (lim prog) xRw xZp (run (lim prog) xOr ⟨xRx s1 s2 s8 s70 s71 s72,H⟩) := xAN _ _ _ _ (by kernel_rfl)
def xNb : ACode :=
 oR ([oB 94 .lss 93 92])
 (.seq (.cond (.t 94)
 .skip
 (.exit 4))
 (.seq (.block 5 (oR ([oO 95 (.iaddr 4 (.t 91) (.t 93)),
 oG 96 4 95,
 oX 18 (.c (.agg [oI 0,oI 0,.int .u8 0,.int .u8 0])),
 ⟨none,.store 4 (.t 18) (.t 96),none⟩])
 (oR ([oT 98 8,
 oF 99 0 18,
 oH 100 1 99,
 oO 101 (.icall (.t 98) [.t 100]),
 oT 97 101,
 oO 102 (.ext 0 (.t 97)),
 oO 103 (.ext 1 (.t 97)),
 oT 19 102,
 oT 20 103])
 (oR ([oT 105 8,
 oF 106 1 18,
 oH 107 1 106,
 oO 108 (.icall (.t 105) [.t 107]),
 oT 104 108,
 oO 109 (.ext 0 (.t 104)),
 oO 110 (.ext 1 (.t 104)),
 oT 21 109,
 oT 22 110])
 (oR ([oT 111 20,
 oT 112 111,
 ⟨some 113,.mov (.t 22),some (112,true)⟩,
 oO 114 (.pick (.t 112) (.t 113) (.c (.bool false)))])
 (.cond (.t 114)
 (.region [oF 115 4 2,
 oH 116 1 115,
 oT 117 19,
 oT 118 21,
 oF 119 2 18,
 oH 120 1 119,
 oF 121 3 18,
 oH 122 1 121,
 oO 123 (.build [oI 0,oI 0,.int .u8 0,.int .u8 0] [(0,1,.t 117),(1,1,.t 118),(2,1,.t 120),(3,1,.t 122)]),
 oO 124 (.bslice true [oI 0,oI 0,.int .u8 0,.int .u8 0] 4 1 [(0,.t 123)]),
 oO 125 (.append false 4 24 (.t 116) (.t 124)),
 oF 126 4 2,
 ⟨none,.store 1 (.t 126) (.t 125),none⟩])
 .skip))))))
 (.region [oA 127 .add 93 (.c (oI 1)),
 oT 93 127])))
def xZq : ACode := xNb
def xRz : List Nat := [0,1,3,4,5,6,7,9,10,11,12,13,14,15,16,17,18,19,20,21,22,23,24,25,26,27,28,29,30,31,32,33,34,35,36,37,38,39,40,41,42,43,44,45,46,47,48,49,50,51,52,53,54,55,56,57,58,59,60,61,62,63,64,65,66,67,68,69,70,71,72,73,74,75,76,77,78,79,80,81,82,83,84,85,86,87,88,89,90,94,95,96,97,98,99,100,101,102,103,104,105,106,107,108,109,110,111,112,113,114,115,116,117,118,119,120,121,122,123,124,125,126,127,128]
abbrev xRA (s2 s8 s91 s92 s93 : AV) : List AV := [oE,oE,s2,oE,oE,oE,oE,oE,s8,oE,oE,oE,oE,oE,oE,oE,oE,oE,oE,oE,oE,oE,oE,oE,oE,oE,oE,oE,oE,oE,oE,oE,oE,oE,oE,oE,oE,oE,oE,oE,oE,oE,oE,oE,oE,oE,oE,oE,oE,oE,oE,oE,oE,oE,oE,oE,oE,oE,oE,oE,oE,oE,oE,oE,oE,oE,oE,oE,oE,oE,oE,oE,oE,oE,oE,oE,oE,oE,oE,oE,oE,oE,oE,oE,oE,oE,oE,oE,oE,oE,oE,s91,s92,s93,oE,oE,oE,oE,oE,oE,oE,oE,oE,oE,oE,oE,oE,oE,oE,oE,oE,oE,oE,oE,oE,oE,oE,oE,oE,oE,oE,oE,oE,oE,oE,oE,oE,oE,oE]
theorem xOs (a b c d e f g h i j k l m n o p q r s t u v w x y z A B C D E F G H I J K L M N O P Q R S T U V W X Y Z a0 a1 a2 a3 a4 a5 a6 a7 a8 a9 b0 b1 b2 b3 b4 b5 b6 b7 b8 b9 c0 c1 c2 c3 c4 c5 c6 c7 c8 c9 d0 d1 d2 d3 d4 d5 d6 d7 d8 d9 e0 e1 e2 e3 e4 e5 e6 e7 e8 e9 f0 f1 f2 f3 f4 f5 f6 f7 f8 f9 g0 g1 g2 g3 g4 g5 g6 g7 g8 g9 h0 h1 h2 h3 h4 h5 h6 : AV) : xA6 xRz [a,b,c,d,e,f,g,h,i,j,k,l,m,n,o,p,q,r,s,t,u,v,w,x,y,z,A,B,C,D,E,F,G,H,I,J,K,L,M,N,O,P,Q,R,S,T,U,V,W,X,Y,Z,a0,a1,a2,a3,a4,a5,a6,a7,a8,a9,b0,b1,b2,b3,b4,b5,b6,b7,b8,b9,c0,c1,c2,c3,c4,c5,c6,c7,c8,c9,d0,d1,d2,d3,d4,d5,d6,d7,d8,d9,e0,e1,e2,e3,e4,e5,e6,e7,e8,e9,f0,f1,f2,f3,f4,f5,f6,f7,f8,f9,g0,g1,g2,g3,g4,g5,g6,g7,g8,g9,h0,h1,h2,h3,h4,h5,h6] = xRA c i d9 e0 e1 := by kernel_rfl
theorem xRB {prog : Nat → Option AFunc} (s2 s8 s91 s92 s93 : AV) (H : Heap) : (lim prog).loop xRz xZq ⟨xRA s2 s8 s91 s92 s93,H⟩ = xBv (lim prog) xRz xZq (run (lim prog) xNb ⟨xRA s2 s8 s91 s92 s93,H⟩) := xAN _ _ _ _ (by kernel_rfl)
def a17 : AFunc := ⟨129,
 oR ([oX 1 (.t 0),
 oX 2 (.c (.agg [oI 0,oI 0,oS,oS,oS])),
 oM 3 (.c (oI 0))])
 (oR ([oG 24 5 1,
 oO 25 (.call 15 [.t 24]),
 oT 23 25,
 oO 26 (.ext 0 (.t 23)),
 oO 27 (.ext 1 (.t 23)),
 oT 4 26,
 oT 3 27])
 (.seq (oR ([oT 28 3,
 oA 29 .neq 28 (.c (oI 0))])
 (.cond (.t 29)
 (oR ([oO 30 (.build [oI 0,oI 0,oS,oS,oS] []),
 oT 31 3,
 ⟨none,.store 5 (.t 2) (.t 30),none⟩,
 oT 3 31])
 .ret)
 .skip))
 (oR ([oG 33 5 1,
 oO 34 (.call 16 [.t 33]),
 oT 32 34,
 oO 35 (.ext 0 (.t 32)),
 oO 36 (.ext 1 (.t 32)),
 oT 5 35,
 oT 6 36])
 (oR ([oT 37 4,
 oT 38 5,
 oO 39 (.call 45 [.t 37,.t 38]),
 oO 40 (.call 44 [.t 39]),
 oX 7 (.c (oS)),
 ⟨none,.store 1 (.t 7) (.t 40),none⟩])
 (oR ([oO 41 (.mkfunc 46 [.t 7]),
 oT 8 41])
 (.seq (.drawl [(7,(1,(46,1)))] 4 [oF 42 0 1,
 oH 43 1 42,
 oH 44 1 7,
 oN 45 44,
 oF 46 0 2,
 ⟨none,.store 1 (.t 46) (.t 43),none⟩,
 oF 47 1 2,
 ⟨none,.store 1 (.t 47) (.t 45),none⟩])
 (.seq (oR ([oF 48 2 1,
 oH 49 1 48,
 oN 50 49,
 oM 51 (.c (oI 0))])
 (.block 0 (.loop xRt xZo)))
 (.seq (oR ([oF 69 3 1,
 oH 70 1 69,
 oN 71 70,
 oM 72 (.c (oI 0))])
 (.block 2 (.loop xRw xZp)))
 (.seq (oR ([oF 90 4 1,
 oH 91 1 90,
 oN 92 91,
 oM 93 (.c (oI 0))])
 (.block 4 (.loop xRz xZq)))
 (oR ([oG 128 5 2,
 ⟨none,.store 5 (.t 2) (.t 128),none⟩,
 oM 3 (.c (oI 0))])
 .ret)))))))))),
 [.cell 2 true 5,.tmp 3]⟩
def xRC : ACode :=
 oR ([oB 29 .lss 28 27])
 (.seq (.cond (.t 29)
 .skip
 (.exit 0))
 (.seq (.block 1 (oR ([oO 30 (.iaddr 4 (.t 26) (.t 28)),
 oG 31 4 30,
 oX 7 (.c (.agg [oI 0,oI 0,.int .u8 0,.int .u8 0])),
 ⟨none,.store 4 (.t 7) (.t 31),none⟩])
 (.region [oF 32 4 5,
 oH 33 1 32,
 oF 34 1 7,
 oH 35 1 34,
 oF 36 0 7,
 oH 37 1 36,
 oF 38 2 7,
 oH 39 1 38,
 oF 40 3 7,
 oH 41 1 40,
 oO 42 (.build [oI 0,oI 0,.int .u8 0,.int .u8 0] [(0,1,.t 35),(1,1,.t 37),(2,1,.t 39),(3,1,.t 41)]),
 oO 43 (.bslice true [oI 0,oI 0,.int .u8 0,.int .u8 0] 4 1 [(0,.t 42)]),
 oO 44 (.append false 4 24 (.t 33) (.t 43)),
 oF 45 4 5,
 ⟨none,.store 1 (.t 45) (.t 44),none⟩])))
 (.region [oA 46 .add 28 (.c (oI 1)),
 oT 28 46])))
def xVP : ACode := xRC
def xNc : List Nat := [0,1,3,4,6,7,8,9,10,11,12,13,14,15,16,17,18,19,20,21,22,23,24,25,29,30,31,32,33,34,35,36,37,38,39,40,41,42,43,44,45,46,47]
abbrev xL3 (s2 s5 s26 s27 s28 : AV) : List AV := [oE,oE,s2,oE,oE,s5,oE,oE,oE,oE,oE,oE,oE,oE,oE,oE,oE,oE,oE,oE,oE,oE,oE,oE,oE,oE,s26,s27,s28,oE,oE,oE,oE,oE,oE,oE,oE,oE,oE,oE,oE,oE,oE,oE,oE,oE,oE,oE]
theorem xH6 (a b c d e f g h i j k l m n o p q r s t u v w x y z A B C D E F G H I J K L M N O P Q R S T U V : AV) : xA6 xNc [a,b,c,d,e,f,g,h,i,j,k,l,m,n,o,p,q,r,s,t,u,v,w,x,y,z,A,B,C,D,E,F,G,H,I,J,K,L,M,N,O,P,Q,R,S,T,U,V] = xL3 c f A B C := by kernel_rfl
theorem xW9 {prog : Nat → Option AFunc} (s2 s5 s26 s27 s28 : AV) (H : Heap) : (lim prog).loop xNc xVP ⟨xL3 s2 s5 s26 s27 s28,H⟩ = xBv (lim prog) xNc xVP (run (lim prog) xRC ⟨xL3 s2 s5 s26 s27 s28,H⟩) := xAN _ _ _ _ (by kernel_rfl)
def a18 : AFunc := ⟨48,
 oR ([oX 1 (.t 0),
 oX 2 (.c (.agg [oI 0,oI 0,oS,oS,oS])),
 oM 3 (.c (oI 0))])
 (.seq (oR ([oG 8 5 1,
 oO 9 (.call 26 [.t 8]),
 oT 4 9])
 (oR ([oT 10 4,
 oA 11 .neq 10 (.c (oI 0))])
 (.cond (.t 11)
 (oR ([oO 12 (.build [oI 0,oI 0,oS,oS,oS] []),
 oT 13 4,
 ⟨none,.store 5 (.t 2) (.t 12),none⟩,
 oT 3 13])
 .ret)
 .skip)))
 (.seq (.drawp [] [] 11 [oF 14 0 1,
 oH 15 1 14,
 oF 16 1 1,
 oH 17 1 16,
 oF 18 3 1,
 oH 19 1 18,
 oO 20 (.ocall 48 [.t 19]),
 oF 21 2 1,
 oH 22 1 21,
 oO 23 (.ocall 48 [.t 22]),
 oX 5 (.c (.agg [oI 0,oI 0,oS,oS,oS])),
 oO 24 (.build [oI 0,oI 0,oS,oS,oS] [(0,1,.t 15),(1,1,.t 17),(2,1,.t 20),(3,1,.t 23)]),
 ⟨none,.store 5 (.t 5) (.t 24),none⟩])
 (.seq (oR ([oF 25 4 1,
 oH 26 1 25,
 oN 27 26,
 oM 28 (.c (oI 0))])
 (.block 0 (.loop xNc xVP)))
 (oR ([oG 47 5 5,
 ⟨none,.store 5 (.t 2) (.t 47),none⟩,
 oM 3 (.c (oI 0))])
 .ret)))),
 [.cell 2 true 5,.tmp 3]⟩
def xRD : ACode :=
 oR ([oB 70 .lss 69 68])
 (.seq (.cond (.t 70)
 .skip
 (.exit 1))
 (.seq (.block 2 (oR ([oO 71 (.iaddr 1 (.t 67) (.t 69)),
 oH 72 1 71,
 oT 9 72])
 (.region [oF 73 2 4,
 oH 74 1 73,
 oF 75 1 2,
 oH 76 1 75,
 oT 77 9,
 oB 78 .add 76 77,
 oO 79 (.bslice true [oI 0] 1 1 [(0,.t 78)]),
 oO 80 (.append false 1 8 (.t 74) (.t 79)),
 oF 81 2 4,
 ⟨none,.store 1 (.t 81) (.t 80),none⟩])))
 (.region [oA 82 .add 69 (.c (oI 1)),
 oT 69 82])))
def xVQ : ACode := xRD
def xNd : List Nat := [0,1,5,6,7,8,9,10,11,12,13,14,15,16,17,18,19,20,21,22,23,24,25,26,27,28,29,30,31,32,33,34,35,36,37,38,39,40,41,42,43,44,45,46,47,48,49,50,51,52,53,54,55,56,57,58,59,60,61,62,63,64,65,66,70,71,72,73,74,75,76,77,78,79,80,81,82,83,84,85,86,87,88,89,90,91,92,93,94,95,96,97,98,99,100,101,102,103,104,105,106,107,108,109,110,111,112,113,114,115,116,117,118,119,120,121,122,123,124,125,126]
abbrev xKe (s2 s3 s4 s67 s68 s69 : AV) : List AV := [oE,oE,s2,s3,s4,oE,oE,oE,oE,oE,oE,oE,oE,oE,oE,oE,oE,oE,oE,oE,oE,oE,oE,oE,oE,oE,oE,oE,oE,oE,oE,oE,oE,oE,oE,oE,oE,oE,oE,oE,oE,oE,oE,oE,oE,oE,oE,oE,oE,oE,oE,oE,oE,oE,oE,oE,oE,oE,oE,oE,oE,oE,oE,oE,oE,oE,oE,s67,s68,s69,oE,oE,oE,oE,oE,oE,oE,oE,oE,oE,oE,oE,oE,oE,oE,oE,oE,oE,oE,oE,oE,oE,oE,oE,oE,oE,oE,oE,oE,oE,oE,oE,oE,oE,oE,oE,oE,oE,oE,oE,oE,oE,oE,oE,oE,oE,oE,oE,oE,oE,oE,oE,oE,oE,oE,oE,oE]
theorem xUl (a b c d e f g h i j k l m n o p q r s t u v w x y z A B C D E F G H I J K L M N O P Q R S T U V W X Y Z a0 a1 a2 a3 a4 a5 a6 a7 a8 a9 b0 b1 b2 b3 b4 b5 b6 b7 b8 b9 c0 c1 c2 c3 c4 c5 c6 c7 c8 c9 d0 d1 d2 d3 d4 d5 d6 d7 d8 d9 e0 e1 e2 e3 e4 e5 e6 e7 e8 e9 f0 f1 f2 f3 f4 f5 f6 f7 f8 f9 g0 g1 g2 g3 g4 g5 g6 g7 g8 g9 h0 h1 h2 h3 h4 : AV) : xA6 xNd [a,b,c,d,e,f,g,h,i,j,k,l,m,n,o,p,q,r,s,t,u,v,w,x,y,z,A,B,C,D,E,F,G,H,I,J,K,L,M,N,O,P,Q,R,S,T,U,V,W,X,Y,Z,a0,a1,a2,a3,a4,a5,a6,a7,a8,a9,b0,b1,b2,b3,b4,b5,b6,b7,b8,b9,c0,c1,c2,c3,c4,c5,c6,c7,c8,c9,d0,d1,d2,d3,d4,d5,d6,d7,d8,d9,e0,e1,e2,e3,e4,e5,e6,e7,e8,e9,f0,f1,f2,f3,f4,f5,f6,f7,f8,f9,g0,g1,g2,g3,g4,g5,g6,g7,g8,g9,h0,h1,h2,h3,h4] = xKe c d e b5 b6 b7 := by kernel_rfl
theorem xXa {prog : Nat → Option AFunc} (s2 s3 s4 s67 s68 s69 : AV) (H : Heap) : (lim prog).loop xNd xVQ ⟨xKe s2 s3 s4 s67 s68 s69,H⟩ = xBv (lim prog) xNd xVQ (run (lim prog) xRD ⟨xKe s2 s3 s4 s67 s68 s69,H⟩) := xAN _ _ _ _ (by kernel_rfl)
def xRE : ACode :=
 oR ([oB 87 .lss 86 85])
 (.seq (.cond (.t 87)
 .skip
 (.exit 3))
 (.seq (.block 4 (oR ([oO 88 (.iaddr 1 (.t 84) (.t 86)),
 oH 89 1 88,
 oT 11 89])
 (.region [oF 90 3 4,
 oH 91 1 90,
 oF 92 1 2,
 oH 93 1 92,
 oT 94 11,
 oB 95 .add 93 94,
 oO 96 (.bslice true [oI 0] 1 1 [(0,.t 95)]),
 oO 97 (.append false 1 8 (.t 91) (.t 96)),
 oF 98 3 4,
 ⟨none,.store 1 (.t 98) (.t 97),none⟩])))
 (.region [oA 99 .add 86 (.c (oI 1)),
 oT 86 99])))
def xVR : ACode := xRE
def xNe : List Nat := [0,1,5,6,7,8,9,10,11,12,13,14,15,16,17,18,19,20,21,22,23,24,25,26,27,28,29,30,31,32,33,34,35,36,37,38,39,40,41,42,43,44,45,46,47,48,49,50,51,52,53,54,55,56,57,58,59,60,61,62,63,64,65,66,67,68,69,70,71,72,73,74,75,76,77,78,79,80,81,82,83,87,88,89,90,91,92,93,94,95,96,97,98,99,100,101,102,103,104,105,106,107,108,109,110,111,112,113,114,115,116,117,118,119,120,121,122,123,124,125,126]
abbrev xKf (s2 s3 s4 s84 s85 s86 : AV) : List AV := [oE,oE,s2,s3,s4,oE,oE,oE,oE,oE,oE,oE,oE,oE,oE,oE,oE,oE,oE,oE,oE,oE,oE,oE,oE,oE,oE,oE,oE,oE,oE,oE,oE,oE,oE,oE,oE,oE,oE,oE,oE,oE,oE,oE,oE,oE,oE,oE,oE,oE,oE,oE,oE,oE,oE,oE,oE,oE,oE,oE,oE,oE,oE,oE,oE,oE,oE,oE,oE,oE,oE,oE,oE,oE,oE,oE,oE,oE,oE,oE,oE,oE,oE,oE,s84,s85,s86,oE,oE,oE,oE,oE,oE,oE,oE,oE,oE,oE,oE,oE,oE,oE,oE,oE,oE,oE,oE,oE,oE,oE,oE,oE,oE,oE,oE,oE,oE,oE,oE,oE,oE,oE,oE,oE,oE,oE,oE]
theorem xUm (a b c d e f g h i j k l m n o p q r s t u v w x y z A B C D E F G H I J K L M N O P Q R S T U V W X Y Z a0 a1 a2 a3 a4 a5 a6 a7 a8 a9 b0 b1 b2 b3 b4 b5 b6 b7 b8 b9 c0 c1 c2 c3 c4 c5 c6 c7 c8 c9 d0 d1 d2 d3 d4 d5 d6 d7 d8 d9 e0 e1 e2 e3 e4 e5 e6 e7 e8 e9 f0 f1 f2 f3 f4 f5 f6 f7 f8 f9 g0 g1 g2 g3 g4 g5 g6 g7 g8 g9 h0 h1 h2 h3 h4 : AV) : xA6 xNe [a,b,c,d,e,f,g,h,i,j,k,l,m,n,o,p,q,r,s,t,u,v,w,x,y,z,A,B,C,D,E,F,G,H,I,J,K,L,M,N,O,P,Q,R,S,T,U,V,W,X,Y,Z,a0,a1,a2,a3,a4,a5,a6,a7,a8,a9,b0,b1,b2,b3,b4,b5,b6,b7,b8,b9,c0,c1,c2,c3,c4,c5,c6,c7,c8,c9,d0,d1,d2,d3,d4,d5,d6,d7,d8,d9,e0,e1,e2,e3,e4,e5,e6,e7,e8,e9,f0,f1,f2,f3,f4,f5,f6,f7,f8,f9,g0,g1,g2,g3,g4,g5,g6,g7,g8,g9,h0,h1,h2,h3,h4] = xKf c d e d2 d3 d4 := by kernel_rfl
theorem xXb {prog : Nat → Option AFunc} (s2 s3 s4 s84 s85 s86 : AV) (H : Heap) : (lim prog).loop xNe xVR ⟨xKf s2 s3 s4 s84 s85 s86,H⟩ = xBv (lim prog) xNe xVR (run (lim prog) xRE ⟨xKf s2 s3 s4 s84 s85 s86,H⟩) := xAN _ _ _ _ (by kernel_rfl)
def xRF : ACode :=
 oR ([oB 104 .lss 103 102])
 (.seq (.cond (.t 104)
 .skip
 (.exit 5))
 (.seq (.block 6 (oR ([oO 105 (.iaddr 4 (.t 101) (.t 103)),
 oG 106 4 105,
 oX 13 (.c (.agg [oI 0,oI 0,.int .u8 0,.int .u8 0])),
 ⟨none,.store 4 (.t 13) (.t 106),none⟩])
 (.seq (.drawl [(112,(1,(117,1)))] 10 [oF 107 1 2,
 oH 108 1 107,
 oF 109 0 13,
 oH 110 1 109,
 oB 111 .add 108 110,
 oF 112 1 2,
 oH 113 1 112,
 oF 114 1 13,
 oH 115 1 114,
 oB 116 .add 113 115,
 oF 117 0 13,
 ⟨none,.store 1 (.t 117) (.t 111),none⟩,
 oF 118 1 13,
 ⟨none,.store 1 (.t 118) (.t 116),none⟩])
 (.region [oF 119 4 4,
 oH 120 1 119,
 oG 121 4 13,
 oO 122 (.bslice true [oI 0,oI 0,.int .u8 0,.int .u8 0] 4 1 [(0,.t 121)]),
 oO 123 (.append false 4 24 (.t 120) (.t 122)),
 oF 124 4 4,
 ⟨none,.store 1 (.t 124) (.t 123),none⟩]))))
 (.region [oA 125 .add 103 (.c (oI 1)),
 oT 103 125])))
def xVS : ACode := xRF
def xNf : List Nat := [0,1,3,5,6,7,8,9,10,11,12,13,14,15,16,17,18,19,20,21,22,23,24,25,26,27,28,29,30,31,32,33,34,35,36,37,38,39,40,41,42,43,44,45,46,47,48,49,50,51,52,53,54,55,56,57,58,59,60,61,62,63,64,65,66,67,68,69,70,71,72,73,74,75,76,77,78,79,80,81,82,83,84,85,86,87,88,89,90,91,92,93,94,95,96,97,98,99,100,104,105,106,107,108,109,110,111,112,113,114,115,116,117,118,119,120,121,122,123,124,125,126]
abbrev xKg (s2 s4 s101 s102 s103 : AV) : List AV := [oE,oE,s2,oE,s4,oE,oE,oE,oE,oE,oE,oE,oE,oE,oE,oE,oE,oE,oE,oE,oE,oE,oE,oE,oE,oE,oE,oE,oE,oE,oE,oE,oE,oE,oE,oE,oE,oE,oE,oE,oE,oE,oE,oE,oE,oE,oE,oE,oE,oE,oE,oE,oE,oE,oE,oE,oE,oE,oE,oE,oE,oE,oE,oE,oE,oE,oE,oE,oE,oE,oE,oE,oE,oE,oE,oE,oE,oE,oE,oE,oE,oE,oE,oE,oE,oE,oE,oE,oE,oE,oE,oE,oE,oE,oE,oE,oE,oE,oE,oE,oE,s101,s102,s103,oE,oE,oE,oE,oE,oE,oE,oE,oE,oE,oE,oE,oE,oE,oE,oE,oE,oE,oE,oE,oE,oE,oE]
theorem xUn (a b c d e f g h i j k l m n o p q r s t u v w x y z A B C D E F G H I J K L M N O P Q R S T U V W X Y Z a0 a1 a2 a3 a4 a5 a6 a7 a8 a9 b0 b1 b2 b3 b4 b5 b6 b7 b8 b9 c0 c1 c2 c3 c4 c5 c6 c7 c8 c9 d0 d1 d2 d3 d4 d5 d6 d7 d8 d9 e0 e1 e2 e3 e4 e5 e6 e7 e8 e9 f0 f1 f2 f3 f4 f5 f6 f7 f8 f9 g0 g1 g2 g3 g4 g5 g6 g7 g8 g9 h0 h1 h2 h3 h4 : AV) : xA6 xNf [a,b,c,d,e,f,g,h,i,j,k,l,m,n,o,p,q,r,s,t,u,v,w,x,y,z,A,B,C,D,E,F,G,H,I,J,K,L,M,N,O,P,Q,R,S,T,U,V,W,X,Y,Z,a0,a1,a2,a3,a4,a5,a6,a7,a8,a9,b0,b1,b2,b3,b4,b5,b6,b7,b8,b9,c0,c1,c2,c3,c4,c5,c6,c7,c8,c9,d0,d1,d2,d3,d4,d5,d6,d7,d8,d9,e0,e1,e2,e3,e4,e5,e6,e7,e8,e9,f0,f1,f2,f3,f4,f5,f6,f7,f8,f9,g0,g1,g2,g3,g4,g5,g6,g7,g8,g9,h0,h1,h2,h3,h4] = xKg c e e9 f0 f1 := by kernel_rfl
theorem xXc {prog : Nat → Option AFunc} (s2 s4 s101 s102 s103 : AV) (H : Heap) : (lim prog).loop xNf xVS ⟨xKg s2 s4 s101 s102 s103,H⟩ = xBv (lim prog) xNf xVS (run (lim prog) xRF ⟨xKg s2 s4 s101 s102 s103,H⟩) := xAN _ _ _ _ (by kernel_rfl)
def a19 : AFunc := ⟨127,
 oR ([oX 2 (.t 0),
 oX 3 (.t 1),
 oX 4 (.c (.agg [oI 0,oI 0,oS,oS,oS])),
 oM 5 (.c (oI 0))])
 (.seq (oR ([oG 14 5 2,
 oO 15 (.call 26 [.t 14]),
 oT 6 15])
 (oR ([oT 16 6,
 oA 17 .neq 16 (.c (oI 0))])
 (.cond (.t 17)
 (oR ([oO 18 (.build [oI 0,oI 0,oS,oS,oS] []),
 oT 19 6,
 ⟨none,.store 5 (.t 4) (.t 18),none⟩,
 oT 5 19])
 .ret)
 .skip)))
 (.seq (oR ([oG 20 5 3,
 oO 21 (.call 26 [.t 20]),
 oT 7 21])
 (oR ([oT 22 7,
 oA 23 .neq 22 (.c (oI 0))])
 (.cond (.t 23)
 (oR ([oO 24 (.build [oI 0,oI 0,oS,oS,oS] []),
 oT 25 7,
 ⟨none,.store 5 (.t 4) (.t 24),none⟩,
 oT 5 25])
 .ret)
 .skip)))
 (.seq (.block 0 (oR ([oF 27 0 2,
 oH 28 1 27,
 oF 29 0 3,
 oH 30 1 29,
 oB 31 .neq 28 30,
 oT 26 31])
 (.cond (.t 26)
 (oR ([oO 32 (.build [oI 0,oI 0,oS,oS,oS] []),
 ⟨none,.store 5 (.t 4) (.t 32),none⟩,
 oM 5 (.c (oI 7))])
 .ret)
 (.seq (oR ([oF 34 1 2,
 oH 35 1 34,
 oF 36 1 3,
 oH 37 1 36,
 oB 38 .add 35 37,
 oA 39 .gtr 38 (.c (oI 64)),
 oT 33 39])
 (.cond (.t 33)
 .skip
 (.region [oF 40 4 2,
 oH 41 1 40,
 oN 42 41,
 oF 43 4 3,
 oH 44 1 43,
 oN 45 44,
 oB 46 .add 42 45,
 oA 47 .gtr 46 (.c (oI 512)),
 oT 33 47])))
 (.cond (.t 33)
 (oR ([oO 48 (.build [oI 0,oI 0,oS,oS,oS] []),
 ⟨none,.store 5 (.t 4) (.t 48),none⟩,
 oM 5 (.c (oI 4))])
 .ret)
 .skip)))))
 (.seq (.drawp [] [] 16 [oF 49 0 2,
 oH 50 1 49,
 oF 51 1 2,
 oH 52 1 51,
 oF 53 1 3,
 oH 54 1 53,
 oB 55 .add 52 54,
 oF 56 2 2,
 oH 57 1 56,
 oO 58 (.ocall 48 [.t 57]),
 oF 59 3 2,
 oH 60 1 59,
 oO 61 (.ocall 48 [.t 60]),
 oF 62 4 2,
 oH 63 1 62,
 oO 64 (.ocall 49 [.t 63]),
 oO 65 (.build [oI 0,oI 0,oS,oS,oS] [(0,1,.t 50),(1,1,.t 55),(2,1,.t 58),(3,1,.t 61),(4,1,.t 64)]),
 ⟨none,.store 5 (.t 4) (.t 65),none⟩])
 (.seq (oR ([oF 66 2 3,
 oH 67 1 66,
 oN 68 67,
 oM 69 (.c (oI 0))])
 (.block 1 (.loop xNd xVQ)))
 (.seq (oR ([oF 83 3 3,
 oH 84 1 83,
 oN 85 84,
 oM 86 (.c (oI 0))])
 (.block 3 (.loop xNe xVR)))
 (.seq (oR ([oF 100 4 3,
 oH 101 1 100,
 oN 102 101,
 oM 103 (.c (oI 0))])
 (.block 5 (.loop xNf xVS)))
 (oR ([oG 126 5 4,
 ⟨none,.store 5 (.t 4) (.t 126),none⟩,
 oM 5 (.c (oI 0))])
 .ret)))))))),
 [.cell 4 true 5,.tmp 5]⟩
def xUo : ACode :=
 .seq (oR ([oT 11 5,
 oT 12 0,
 oN 13 12,
 oB 14 .lss 11 13])
 (.cond (.t 14)
 .skip
 (.exit 0)))
 (.seq (.block 1 (.seq (.draw 5 [oT 17 0,
 oT 18 5,
 oO 19 (.iaddr 1 (.t 17) (.t 18)),
 oH 20 1 19,
 oT 21 1,
 oT 22 5,
 oO 23 (.iaddr 1 (.t 21) (.t 22)),
 oH 24 1 23,
 oB 25 .neq 20 24])
 (.cond (.t 25)
 (oR ([oM 4 (.c (.bool false))])
 .ret)
 .skip)))
 (.region [oT 15 5,
 oA 16 .add 15 (.c (oI 1)),
 oT 5 16]))
def xZr : ACode := xUo
def xRG : List Nat := [2,3,6,7,8,9,10,11,12,13,14,15,16,17,18,19,20,21,22,23,24,25]
abbrev xRH (s0 s1 s4 s5 : AV) : List AV := [s0,s1,oE,oE,s4,s5,oE,oE,oE,oE,oE,oE,oE,oE,oE,oE,oE,oE,oE,oE,oE,oE,oE,oE,oE,oE]
theorem xXd (a b c d e f g h i j k l m n o p q r s t u v w x y z : AV) : xA6 xRG [a,b,c,d,e,f,g,h,i,j,k,l,m,n,o,p,q,r,s,t,u,v,w,x,y,z] = xRH a b e f := by kernel_rfl
theorem yAs {prog : Nat → Option AFunc} (s0 s1 s4 s5 : AV) (H : Heap) : (lim prog).loop xRG xZr ⟨xRH s0 s1 s4 s5,H⟩ = xBv (lim prog) xRG xZr (run (lim prog) xUo ⟨xRH s0 s1 s4 s5,H⟩) := xAN _ _ _ _ (by kernel_rfl)
def a20 : AFunc := ⟨26,
 oR ([oM 4 (.c (.bool false))])
 (.seq (oR ([oT 6 0,
 oN 7 6,
 oT 8 1,
 oN 9 8,
 oB 10 .neq 7 9])
 (.cond (.t 10)
 (oR ([oM 4 (.c (.bool false))])
 .ret)
 .skip))
 (.seq (oR ([oM 5 (.c (oI 0))])
 (.block 0 (.loop xRG xZr)))
 (oR ([oM 4 (.c (.bool true))])
 .ret))),
 [.tmp 4]⟩
def a21 : AFunc := ⟨9,
 oR ([oM 4 (.c (oS))])
 (.seq (oR ([oT 5 1,
 oA 6 .neq 5 (.c (oI 0))])
 (.cond (.t 6)
 (oR ([oM 4 (.c (oS))])
 .ret)
 .skip))
 (oR ([oT 7 0,
 oO 8 (.call 38 [.t 7]),
 oT 4 8])
 .ret)),
 [.tmp 4]⟩
def a22 : AFunc := ⟨38,
 oR ([oX 2 (.t 0),
 oX 3 (.t 1),
 oM 4 (.c (.bool false))])
 (oR ([oF 5 0 2,
 oH 6 1 5,
 oF 7 0 3,
 oH 8 1 7,
 oB 9 .eql 6 8,
 oT 10 9,
 ⟨some 11,.faddr 1 (.t 2),some (10,true)⟩,
 ⟨some 12,.load false 1 (.t 11),some (10,true)⟩,
 ⟨some 13,.faddr 1 (.t 3),some (10,true)⟩,
 ⟨some 14,.load false 1 (.t 13),some (10,true)⟩,
 ⟨some 15,.bin .eql (.t 12) (.t 14),some (10,true)⟩,
 oO 16 (.pick (.t 10) (.t 15) (.c (.bool false))),
 oT 17 16,
 ⟨some 18,.faddr 2 (.t 2),some (17,true)⟩,
 ⟨some 19,.load false 1 (.t 18),some (17,true)⟩,
 ⟨some 20,.faddr 2 (.t 3),some (17,true)⟩,
 ⟨some 21,.load false 1 (.t 20),some (17,true)⟩,
 ⟨some 22,.call 31 [.t 19,.t 21],some (17,true)⟩,
 oO 23 (.pick (.t 17) (.t 22) (.c (.bool false))),
 oT 24 23,
 ⟨some 25,.faddr 3 (.t 2),some (24,true)⟩,
 ⟨some 26,.load false 1 (.t 25),some (24,true)⟩,
 ⟨some 27,.faddr 3 (.t 3),some (24,true)⟩,
 ⟨some 28,.load false 1 (.t 27),some (24,true)⟩,
 ⟨some 29,.call 31 [.t 26,.t 28],some (24,true)⟩,
 oO 30 (.pick (.t 24) (.t 29) (.c (.bool false))),
 oT 31 30,
 ⟨some 32,.faddr 4 (.t 2),some (31,true)⟩,
 ⟨some 33,.load false 1 (.t 32),some (31,true)⟩,
 ⟨some 34,.faddr 4 (.t 3),some (31,true)⟩,
 ⟨some 35,.load false 1 (.t 34),some (31,true)⟩,
 ⟨some 36,.call 50 [.t 33,.t 35],some (31,true)⟩,
 oO 37 (.pick (.t 31) (.t 36) (.c (.bool false))),
 oT 4 37])
 .ret),
 [.tmp 4]⟩
def xRI : ACode :=
 .seq (oR ([oT 3 2,
 oT 4 0,
 oN 5 4,
 oB 6 .lss 3 5])
 (.cond (.t 6)
 .skip
 (.exit 0)))
 (.seq (.block 1 (.region [oT 9 0,
 oT 10 2,
 oO 11 (.iaddr 1 (.t 9) (.t 10)),
 ⟨none,.store 1 (.t 11) (.c (.int .u64 77)),none⟩]))
 (.region [oT 7 2,
 oA 8 .add 7 (.c (oI 1)),
 oT 2 8]))
def xZs : ACode := xRI
def xRJ : List Nat := [1,3,4,5,6,7,8,9,10,11]
abbrev xRK (s0 s2 : AV) : List AV := [s0,oE,s2,oE,oE,oE,oE,oE,oE,oE,oE,oE]
theorem xUp (a b c d e f g h i j k l : AV) : xA6 xRJ [a,b,c,d,e,f,g,h,i,j,k,l] = xRK a c := by kernel_rfl
theorem xXe {prog : Nat → Option AFunc} (s0 s2 : AV) (H : Heap) : (lim prog).loop xRJ xZs ⟨xRK s0 s2,H⟩ = xBv (lim prog) xRJ xZs (run (lim prog) xRI ⟨xRK s0 s2,H⟩) := xAN _ _ _ _ (by kernel_rfl)
def a23 : AFunc := ⟨12,
 oR ([oM 2 (.c (oI 0))])
 (.block 0 (.loop xRJ xZs)),
 []⟩
def a24 : AFunc := ⟨11,
 oR ([oX 1 (.t 0)])
 (oR ([oF 2 2 1,
 oH 3 1 2,
 oO 4 (.icall (.c (.func 51 [])) [.t 3])])
 (oR ([oF 5 3 1,
 oH 6 1 5,
 oO 7 (.icall (.c (.func 51 [])) [.t 6])])
 (.region [oF 8 4 1,
 oH 9 1 8,
 oO 10 (.icall (.c (.func 52 [])) [.t 9])]))),
 []⟩
def a25 : AFunc := ⟨24,
 oR ([oX 2 (.t 0),
 oM 4 (.c (.bool false)),
 oM 5 (.c (oI 0))])
 (oR ([oG 9 5 2,
 oT 10 1,
 oO 11 (.call 30 [.t 9,.t 10]),
 oT 8 11,
 oO 12 (.ext 0 (.t 8)),
 oO 13 (.ext 1 (.t 8)),
 oT 6 12,
 oT 7 13])
 (oR ([oT 14 7,
 oA 15 .eql 14 (.c (oI 0)),
 oT 16 15,
 ⟨some 17,.mov (.t 6),some (16,true)⟩,
 ⟨some 18,.faddr 3 (.t 2),some (16,true)⟩,
 ⟨some 19,.load false 1 (.t 18),some (16,true)⟩,
 ⟨some 20,.call 43 [.t 19],some (16,true)⟩,
 ⟨some 21,.call 53 [.t 17,.t 20],some (16,true)⟩,
 oO 22 (.pick (.t 16) (.t 21) (.c (.bool false))),
 oT 23 7,
 oT 4 22,
 oT 5 23])
 .ret)),
 [.tmp 4,.tmp 5]⟩
def xL4 : ACode :=
 oR ([oB 19 .lss 18 17])
 (.seq (.cond (.t 19)
 .skip
 (.exit 0))
 (.seq (.block 1 (oR ([oO 20 (.iaddr 2 (.t 16) (.t 18)),
 oG 21 2 20,
 oX 4 (.c (.agg [.nilf,oI 0])),
 ⟨none,.store 2 (.t 4) (.t 21),none⟩])
 (oR ([oF 22 0 4,
 oH 23 1 22,
 oO 24 (.icall (.t 23) [])])
 (.cond (.t 24)
 (oR ([oF 25 1 4,
 oH 26 1 25,
 oT 2 26])
 .ret)
 .skip))))
 (.region [oA 27 .add 18 (.c (oI 1)),
 oT 18 27])))
def yBm : ACode := xL4
def xUq : List Nat := [0,3,4,5,6,7,8,9,10,11,12,13,14,15,19,20,21,22,23,24,25,26,27,28,29,30,31,32,33,34,35,36,37,38,39,40,41,42,43,44,45,46,47,48,49,50,51,52,53,54,55,56,57,58,59,60,61,62]
abbrev xXf (s1 s2 s16 s17 s18 : AV) : List AV := [oE,s1,s2,oE,oE,oE,oE,oE,oE,oE,oE,oE,oE,oE,oE,oE,s16,s17,s18,oE,oE,oE,oE,oE,oE,oE,oE,oE,oE,oE,oE,oE,oE,oE,oE,oE,oE,oE,oE,oE,oE,oE,oE,oE,oE,oE,oE,oE,oE,oE,oE,oE,oE,oE,oE,oE,oE,oE,oE,oE,oE,oE,oE]
theorem xOt (a b c d e f g h i j k l m n o p q r s t u v w x y z A B C D E F G H I J K L M N O P Q R S T U V W X Y Z a0 a1 a2 a3 a4 a5 a6 a7 a8 a9 b0 : AV) : xA6 xUq [a,b,c,d,e,f,g,h,i,j,k,l,m,n,o,p,q,r,s,t,u,v,w,x,y,z,A,B,C,D,E,F,G,H,I,J,K,L,M,N,O,P,Q,R,S,T,U,V,W,X,Y,Z,a0,a1,a2,a3,a4,a5,a6,a7,a8,a9,b0] = xXf b c q r s := by kernel_rfl
theorem xOu {prog : Nat → Option AFunc} (s1 s2 s16 s17 s18 : AV) (H : Heap) : (lim prog).loop xUq yBm ⟨xXf s1 s2 s16 s17 s18,H⟩ = xBv (lim prog) xUq yBm (run (lim prog) xL4 ⟨xXf s1 s2 s16 s17 s18,H⟩) := xAN _ _ _ _ (by kernel_rfl)
def xL5 : ACode :=
 oR ([oB 32 .lss 31 30])
 (.seq (.cond (.t 32)
 .skip
 (.exit 2))
 (.seq (.block 3 (oR ([oO 33 (.iaddr 4 (.t 29) (.t 31)),
 oG 34 4 33,
 oX 6 (.c (.agg [oI 0,oI 0,.int .u8 0,.int .u8 0])),
 ⟨none,.store 4 (.t 6) (.t 34),none⟩])
 (.seq (oR ([oF 35 0 6,
 oH 36 1 35,
 oF 37 1 6,
 oH 38 1 37,
 oO 39 (.mini (.t 36) (.t 38)),
 oA 40 .lss 39 (.c (oI 0)),
 oT 41 40,
 ⟨some 42,.faddr 0 (.t 6),some (41,false)⟩,
 ⟨some 43,.load false 1 (.t 42),some (41,false)⟩,
 ⟨some 44,.faddr 1 (.t 6),some (41,false)⟩,
 ⟨some 45,.load false 1 (.t 44),some (41,false)⟩,
 ⟨some 46,.maxi (.t 43) (.t 45),some (41,false)⟩,
 ⟨some 47,.faddr 1 (.t 1),some (41,false)⟩,
 ⟨some 48,.load false 1 (.t 47),some (41,false)⟩,
 ⟨some 49,.bin .geq (.t 46) (.t 48),some (41,false)⟩,
 oO 50 (.pick (.t 41) (.c (.bool true)) (.t 49))])
 (.cond (.t 50)
 (oR ([oM 2 (.c (oI 8))])
 .ret)
 .skip))
 (oR ([oF 51 2 6,
 oH 52 1 51,
 oF 53 3 6,
 oH 54 1 53,
 oO 55 (.build [.int .u8 0,.int .u8 0] [(0,1,.t 52),(1,1,.t 54)]),
 oF 56 0 1,
 oH 57 1 56,
 oO 58 (.call 59 [.t 55,.t 57]),
 oT 7 58])
 (oR ([oT 59 7,
 oA 60 .neq 59 (.c (oI 0))])
 (.cond (.t 60)
 (oR ([oT 61 7,
 oT 2 61])
 .ret)
 .skip))))))
 (.region [oA 62 .add 31 (.c (oI 1)),
 oT 31 62])))
def xZt : ACode := xL5
def xRL : List Nat := [0,3,4,5,6,7,8,9,10,11,12,13,14,15,16,17,18,19,20,21,22,23,24,25,26,27,28,32,33,34,35,36,37,38,39,40,41,42,43,44,45,46,47,48,49,50,51,52,53,54,55,56,57,58,59,60,61,62]
abbrev xOv (s1 s2 s29 s30 s31 : AV) : List AV := [oE,s1,s2,oE,oE,oE,oE,oE,oE,oE,oE,oE,oE,oE,oE,oE,oE,oE,oE,oE,oE,oE,oE,oE,oE,oE,oE,oE,oE,s29,s30,s31,oE,oE,oE,oE,oE,oE,oE,oE,oE,oE,oE,oE,oE,oE,oE,oE,oE,oE,oE,oE,oE,oE,oE,oE,oE,oE,oE,oE,oE,oE,oE]
theorem xL6 (a b c d e f g h i j k l m n o p q r s t u v w x y z A B C D E F G H I J K L M N O P Q R S T U V W X Y Z a0 a1 a2 a3 a4 a5 a6 a7 a8 a9 b0 : AV) : xA6 xRL [a,b,c,d,e,f,g,h,i,j,k,l,m,n,o,p,q,r,s,t,u,v,w,x,y,z,A,B,C,D,E,F,G,H,I,J,K,L,M,N,O,P,Q,R,S,T,U,V,W,X,Y,Z,a0,a1,a2,a3,a4,a5,a6,a7,a8,a9,b0] = xOv b c D E F := by kernel_rfl
theorem xRM {prog : Nat → Option AFunc} (s1 s2 s29 s30 s31 : AV) (H : Heap) : (lim prog).loop xRL xZt ⟨xOv s1 s2 s29 s30 s31,H⟩ = xBv (lim prog) xRL xZt (run (lim prog) xL5 ⟨xOv s1 s2 s29 s30 s31,H⟩) := xAN _ _ _ _ (by kernel_rfl)
def a26 : AFunc := ⟨63,
 oR ([oX 1 (.t 0),
 oM 2 (.c (oI 0))])
 (.seq (oR ([oO 8 (.mkfunc 54 [.t 1]),
 oO 9 (.build [.nilf,oI 0] [(0,1,.t 8),(1,1,(.c (oI 7)))]),
 oO 10 (.mkfunc 55 [.t 1]),
 oO 11 (.build [.nilf,oI 0] [(0,1,.t 10),(1,1,(.c (oI 1)))]),
 oO 12 (.mkfunc 56 [.t 1]),
 oO 13 (.build [.nilf,oI 0] [(0,1,.t 12),(1,1,(.c (oI 4)))]),
 oO 14 (.mkfunc 57 [.t 1]),
 oO 15 (.build [.nilf,oI 0] [(0,1,.t 14),(1,1,(.c (oI 8)))]),
 oO 16 (.bslice false [.nilf,oI 0] 2 4 [(0,.t 9),(1,.t 11),(2,.t 13),(3,.t 15)]),
 oN 17 16,
 oM 18 (.c (oI 0))])
 (.block 0 (.loop xUq yBm)))
 (.seq (oR ([oF 28 4 1,
 oH 29 1 28,
 oN 30 29,
 oM 31 (.c (oI 0))])
 (.block 2 (.loop xRL xZt)))
 (oR ([oM 2 (.c (oI 0))])
 .ret))),
 [.tmp 2]⟩
def a27 : AFunc := ⟨8,
 oR ([oX 0 (.c (.agg [oI 0,oI 0,oS,oS,oS]))])
 (oR ([oO 1 (.bslice true [oI 0] 1 1 [(0,(.c (oI 0)))]),
 oO 2 (.bslice true [oI 0] 1 1 [(0,(.c (oI 2)))]),
 oO 3 (.build [oI 0,oI 0,.int .u8 0,.int .u8 0] [(0,1,(.c (oI 0))),(1,1,(.c (oI 0)))]),
 oO 4 (.build [oI 0,oI 0,.int .u8 0,.int .u8 0] [(0,1,(.c (oI 0))),(1,1,(.c (oI 1))),(2,1,(.c (.int .u8 1)))]),
 oO 5 (.build [oI 0,oI 0,.int .u8 0,.int .u8 0] [(0,1,(.c (oI 1))),(1,1,(.c (oI 2)))]),
 oO 6 (.bslice true [oI 0,oI 0,.int .u8 0,.int .u8 0] 4 3 [(0,.t 3),(1,.t 4),(2,.t 5)]),
 oO 7 (.build [oI 0,oI 0,oS,oS,oS] [(0,1,(.c (oI 1))),(1,1,(.c (oI 3))),(2,1,.t 1),(3,1,.t 2),(4,1,.t 6)]),
 ⟨none,.store 5 (.t 0) (.t 7),none⟩])
 .ret),
 [.cell 0 true 5]⟩
def yCk : ACode :=
 oR ([oB 26 .lss 25 24])
 (.seq (.cond (.t 26)
 .skip
 (.exit 0))
 (.seq (.block 1 (oR ([oO 27 (.iaddr 1 (.t 23) (.t 25)),
 oH 28 1 27,
 oT 9 28])
 (.region [oG 29 5 2,
 oT 30 7,
 oT 31 9,
 oO 32 (.ocall 61 [.t 29,.t 30,.t 31]),
 oT 7 32])))
 (.region [oA 33 .add 25 (.c (oI 1)),
 oT 25 33])))
def yDa : ACode := yCk
def yCl : List Nat := [0,1,3,4,5,6,8,9,10,11,12,13,14,15,16,17,18,19,20,21,22,26,27,28,29,30,31,32,33,34]
def a30 : AFunc := ⟨35,
 oR ([oX 2 (.t 0),
 oM 4 (.c (oS)),
 oM 5 (.c (oI 0))])
 (oR ([oG 10 5 2,
 oO 11 (.call 26 [.t 10]),
 oT 6 11])
 (.seq (oR ([oT 12 6,
 oA 13 .eql 12 (.c (oI 0))])
 (.cond (.t 13)
 (.region [oG 14 5 2,
 oT 15 1,
 oO 16 (.call 60 [.t 14,.t 15]),
 oT 6 16])
 .skip))
 (.seq (oR ([oT 17 6,
 oA 18 .neq 17 (.c (oI 0))])
 (.cond (.t 18)
 (oR ([oT 19 6,
 oM 4 (.c (oS)),
 oT 5 19])
 .ret)
 .skip))
 (oR ([oF 20 2 2,
 oH 21 1 20,
 oO 22 (.ocall 43 [.t 21]),
 oT 7 22])
 (.seq (oR ([oT 23 1,
 oN 24 23,
 oM 25 (.c (oI 0))])
 (.block 0 (.loop yCl yDa)))
 (oR ([oT 34 7,
 oT 4 34,
 oM 5 (.c (oI 0))])
 .ret)))))),
 [.tmp 4,.tmp 5]⟩
def xUr : ACode :=
 .seq (oR ([oT 11 5,
 oT 12 0,
 oN 13 12,
 oB 14 .lss 11 13])
 (.cond (.t 14)
 .skip
 (.exit 0)))
 (.seq (.block 1 (.seq (.draw 5 [oT 17 0,
 oT 18 5,
 oO 19 (.iaddr 1 (.t 17) (.t 18)),
 oH 20 1 19,
 oT 21 1,
 oT 22 5,
 oO 23 (.iaddr 1 (.t 21) (.t 22)),
 oH 24 1 23,
 oB 25 .neq 20 24])
 (.cond (.t 25)
 (oR ([oM 4 (.c (.bool false))])
 .ret)
 .skip)))
 (.region [oT 15 5,
 oA 16 .add 15 (.c (oI 1)),
 oT 5 16]))
def xZu : ACode := xUr
def xRN : List Nat := [2,3,6,7,8,9,10,11,12,13,14,15,16,17,18,19,20,21,22,23,24,25]
abbrev xRO (s0 s1 s4 s5 : AV) : List AV := [s0,s1,oE,oE,s4,s5,oE,oE,oE,oE,oE,oE,oE,oE,oE,oE,oE,oE,oE,oE,oE,oE,oE,oE,oE,oE]
theorem xXg (a b c d e f g h i j k l m n o p q r s t u v w x y z : AV) : xA6 xRN [a,b,c,d,e,f,g,h,i,j,k,l,m,n,o,p,q,r,s,t,u,v,w,x,y,z] = xRO a b e f := by kernel_rfl
theorem yAt {prog : Nat → Option AFunc} (s0 s1 s4 s5 : AV) (H : Heap) : (lim prog).loop xRN xZu ⟨xRO s0 s1 s4 s5,H⟩ = xBv (lim prog) xRN xZu (run (lim prog) xUr ⟨xRO s0 s1 s4 s5,H⟩) := xAN _ _ _ _ (by kernel_rfl)
def a31 : AFunc := ⟨26,
 oR ([oM 4 (.c (.bool false))])
 (.seq (oR ([oT 6 0,
 oN 7 6,
 oT 8 1,
 oN 9 8,
 oB 10 .neq 7 9])
 (.cond (.t 10)
 (oR ([oM 4 (.c (.bool false))])
 .ret)
 .skip))
 (.seq (oR ([oM 5 (.c (oI 0))])
 (.block 0 (.loop xRN xZu)))
 (oR ([oM 4 (.c (.bool true))])
 .ret))),
 [.tmp 4]⟩
def a32 : AFunc := ⟨9,
 oR ([oM 2 (.c (.bool false))])
 (oR ([oT 3 0,
 oA 4 .geq 3 (.c (oI 0)),
 oT 5 4,
 ⟨some 6,.mov (.t 0),some (5,true)⟩,
 ⟨some 7,.bin .leq (.t 6) (.c (oI 6)),some (5,true)⟩,
 oO 8 (.pick (.t 5) (.t 7) (.c (.bool false))),
 oT 2 8])
 .ret),
 [.tmp 2]⟩
def xJI : ACode :=
 .seq (oR ([oT 6 5,
 oT 7 0,
 oN 8 7,
 oB 9 .lss 6 8])
 (.cond (.t 9)
 .skip
 (.exit 0)))
 (.seq (.block 1 (.seq (.draw 26 [oT 12 0,
 oT 13 5,
 oO 14 (.iaddr 1 (.t 12) (.t 13)),
 oH 15 1 14,
 oA 16 .lss 15 (.c (oI 0)),
 oT 17 16,
 ⟨some 18,.mov (.t 0),some (17,false)⟩,
 ⟨some 19,.mov (.t 5),some (17,false)⟩,
 ⟨some 20,.iaddr 1 (.t 18) (.t 19),some (17,false)⟩,
 ⟨some 21,.load false 1 (.t 20),some (17,false)⟩,
 ⟨some 22,.mov (.t 1),some (17,false)⟩,
 ⟨some 23,.bin .geq (.t 21) (.t 22),some (17,false)⟩,
 oO 24 (.pick (.t 17) (.c (.bool true)) (.t 23)),
 oT 25 24,
 ⟨some 26,.mov (.t 5),some (25,false)⟩,
 ⟨some 27,.bin .gtr (.t 26) (.c (oI 0)),some (25,false)⟩,
 ⟨some 28,.mov (.t 27),some (25,false)⟩,
 ⟨some 29,.mov (.t 0),some (28,true)⟩,
 ⟨some 30,.mov (.t 5),some (28,true)⟩,
 ⟨some 31,.iaddr 1 (.t 29) (.t 30),some (28,true)⟩,
 ⟨some 32,.load false 1 (.t 31),some (28,true)⟩,
 ⟨some 33,.mov (.t 0),some (28,true)⟩,
 ⟨some 34,.mov (.t 5),some (28,true)⟩,
 ⟨some 35,.bin .sub (.t 34) (.c (oI 1)),some (28,true)⟩,
 ⟨some 36,.iaddr 1 (.t 33) (.t 35),some (28,true)⟩,
 ⟨some 37,.load false 1 (.t 36),some (28,true)⟩,
 ⟨some 38,.bin .leq (.t 32) (.t 37),some (28,true)⟩,
 ⟨some 39,.pick (.t 28) (.t 38) (.c (.bool false)),some (25,false)⟩,
 oO 40 (.pick (.t 25) (.c (.bool true)) (.t 39))])
 (.cond (.t 40)
 (oR ([oM 4 (.c (.bool false))])
 .ret)
 .skip)))
 (.region [oT 10 5,
 oA 11 .add 10 (.c (oI 1)),
 oT 5 11]))
def xZv : ACode := xJI
def xRP : List Nat := [2,3,6,7,8,9,10,11,12,13,14,15,16,17,18,19,20,21,22,23,24,25,26,27,28,29,30,31,32,33,34,35,36,37,38,39,40]
abbrev xOw (s0 s1 s4 s5 : AV) : List AV := [s0,s1,oE,oE,s4,s5,oE,oE,oE,oE,oE,oE,oE,oE,oE,oE,oE,oE,oE,oE,oE,oE,oE,oE,oE,oE,oE,oE,oE,oE,oE,oE,oE,oE,oE,oE,oE,oE,oE,oE,oE]
theorem xJJ (a b c d e f g h i j k l m n o p q r s t u v w x y z A B C D E F G H I J K L M N O : AV) : xA6 xRP [a,b,c,d,e,f,g,h,i,j,k,l,m,n,o,p,q,r,s,t,u,v,w,x,y,z,A,B,C,D,E,F,G,H,I,J,K,L,M,N,O] = xOw a b e f := by kernel_rfl
theorem xOx {prog : Nat → Option AFunc} (s0 s1 s4 s5 : AV) (H : Heap) : (lim prog).loop xRP xZv ⟨xOw s0 s1 s4 s5,H⟩ = xBv (lim prog) xRP xZv (run (lim prog) xJI ⟨xOw s0 s1 s4 s5,H⟩) := xAN _ _ _ _ (by kernel_rfl)
def a33 : AFunc := ⟨41,
 oR ([oM 4 (.c (.bool false))])
 (.seq (oR ([oM 5 (.c (oI 0))])
 (.block 0 (.loop xRP xZv)))
 (oR ([oM 4 (.c (.bool true))])
 .ret)),
 [.tmp 4]⟩
def xJK : ACode :=
 .seq (oR ([oT 9 7,
 oT 10 0,
 oN 11 10,
 oB 12 .lss 9 11])
 (.cond (.t 12)
 .skip
 (.exit 0)))
 (.seq (.block 1 (.seq (oR ([oT 15 0,
 oT 16 7,
 oO 17 (.iaddr 4 (.t 15) (.t 16)),
 oF 18 0 17,
 oH 19 1 18,
 oA 20 .lss 19 (.c (oI 0)),
 oT 21 20,
 ⟨some 22,.mov (.t 0),some (21,false)⟩,
 ⟨some 23,.mov (.t 7),some (21,false)⟩,
 ⟨some 24,.iaddr 4 (.t 22) (.t 23),some (21,false)⟩,
 ⟨some 25,.faddr 0 (.t 24),some (21,false)⟩,
 ⟨some 26,.load false 1 (.t 25),some (21,false)⟩,
 ⟨some 27,.mov (.t 2),some (21,false)⟩,
 ⟨some 28,.bin .geq (.t 26) (.t 27),some (21,false)⟩,
 oO 29 (.pick (.t 21) (.c (.bool true)) (.t 28)),
 oT 30 29,
 ⟨some 31,.mov (.t 0),some (30,false)⟩,
 ⟨some 32,.mov (.t 7),some (30,false)⟩,
 ⟨some 33,.iaddr 4 (.t 31) (.t 32),some (30,false)⟩,
 ⟨some 34,.faddr 1 (.t 33),some (30,false)⟩,
 ⟨some 35,.load false 1 (.t 34),some (30,false)⟩,
 ⟨some 36,.bin .lss (.t 35) (.c (oI 0)),some (30,false)⟩,
 oO 37 (.pick (.t 30) (.c (.bool true)) (.t 36)),
 oT 38 37,
 ⟨some 39,.mov (.t 0),some (38,false)⟩,
 ⟨some 40,.mov (.t 7),some (38,false)⟩,
 ⟨some 41,.iaddr 4 (.t 39) (.t 40),some (38,false)⟩,
 ⟨some 42,.faddr 1 (.t 41),some (38,false)⟩,
 ⟨some 43,.load false 1 (.t 42),some (38,false)⟩,
 ⟨some 44,.mov (.t 2),some (38,false)⟩,
 ⟨some 45,.bin .geq (.t 43) (.t 44),some (38,false)⟩,
 oO 46 (.pick (.t 38) (.c (.bool true)) (.t 45))])
 (.cond (.t 46)
 (oR ([oM 6 (.c (oI 8))])
 .ret)
 .skip))
 (.seq (.draw 12 [oT 47 0,
 oT 48 7,
 oO 49 (.iaddr 4 (.t 47) (.t 48)),
 oF 50 2 49,
 oH 51 1 50,
 oT 52 0,
 oT 53 7,
 oO 54 (.iaddr 4 (.t 52) (.t 53)),
 oF 55 3 54,
 oH 56 1 55,
 oO 57 (.build [.int .u8 0,.int .u8 0] [(0,1,.t 51),(1,1,.t 56)]),
 oT 58 1,
 oO 59 (.call 64 [.t 57,.t 58]),
 oT 8 59])
 (oR ([oT 60 8,
 oA 61 .neq 60 (.c (oI 0))])
 (.cond (.t 61)
 (oR ([oT 62 8,
 oT 6 62])
 .ret)
 .skip)))))
 (.region [oT 13 7,
 oA 14 .add 13 (.c (oI 1)),
 oT 7 14]))
def xZw : ACode := xJK
def xRQ : List Nat := [3,4,5,8,9,10,11,12,13,14,15,16,17,18,19,20,21,22,23,24,25,26,27,28,29,30,31,32,33,34,35,36,37,38,39,40,41,42,43,44,45,46,47,48,49,50,51,52,53,54,55,56,57,58,59,60,61,62]
abbrev xOy (s0 s1 s2 s6 s7 : AV) : List AV := [s0,s1,s2,oE,oE,oE,s6,s7,oE,oE,oE,oE,oE,oE,oE,oE,oE,oE,oE,oE,oE,oE,oE,oE,oE,oE,oE,oE,oE,oE,oE,oE,oE,oE,oE,oE,oE,oE,oE,oE,oE,oE,oE,oE,oE,oE,oE,oE,oE,oE,oE,oE,oE,oE,oE,oE,oE,oE,oE,oE,oE,oE,oE]
theorem xJL (a b c d e f g h i j k l m n o p q r s t u v w x y z A B C D E F G H I J K L M N O P Q R S T U V W X Y Z a0 a1 a2 a3 a4 a5 a6 a7 a8 a9 b0 : AV) : xA6 xRQ [a,b,c,d,e,f,g,h,i,j,k,l,m,n,o,p,q,r,s,t,u,v,w,x,y,z,A,B,C,D,E,F,G,H,I,J,K,L,M,N,O,P,Q,R,S,T,U,V,W,X,Y,Z,a0,a1,a2,a3,a4,a5,a6,a7,a8,a9,b0] = xOy a b c g h := by kernel_rfl
theorem xNg {prog : Nat → Option AFunc} (s0 s1 s2 s6 s7 : AV) (H : Heap) : (lim prog).loop xRQ xZw ⟨xOy s0 s1 s2 s6 s7,H⟩ = xBv (lim prog) xRQ xZw (run (lim prog) xJK ⟨xOy s0 s1 s2 s6 s7,H⟩) := xAN _ _ _ _ (by kernel_rfl)
def a34 : AFunc := ⟨63,
 oR ([oM 6 (.c (oI 0))])
 (.seq (oR ([oM 7 (.c (oI 0))])
 (.block 0 (.loop xRQ xZw)))
 (oR ([oM 6 (.c (oI 0))])
 .ret)),
 [.tmp 6]⟩
def xUs : ACode :=
 .seq (oR ([oT 18 8,
 oT 19 1,
 oN 20 19,
 oB 21 .lss 18 20])
 (.cond (.t 21)
 .skip
 (.exit 0)))
 (.seq (.block 1 (.region [oT 24 7,
 oT 25 1,
 oT 26 8,
 oO 27 (.iaddr 1 (.t 25) (.t 26)),
 oH 28 1 27,
 oO 29 (.iaddr 1 (.t 24) (.t 28)),
 ⟨none,.store 1 (.t 29) (.c (.bool true)),none⟩]))
 (.region [oT 22 8,
 oA 23 .add 22 (.c (oI 1)),
 oT 8 23]))
def xXh : ACode := xUs
def xOz : List Nat := [0,4,5,6,9,10,11,12,13,14,15,16,17,18,19,20,21,22,23,24,25,26,27,28,29,30,31,32,33,34,35,36,37,38,39,40,41,42,43,44,45,46,47,48,49,50,51,52,53,54,55,56,57,58,59,60,61,62,63,64,65,66,67,68,69,70,71,72,73,74,75,76,77,78,79]
abbrev xNh (s1 s2 s3 s7 s8 : AV) : List AV := [oE,s1,s2,s3,oE,oE,oE,s7,s8,oE,oE,oE,oE,oE,oE,oE,oE,oE,oE,oE,oE,oE,oE,oE,oE,oE,oE,oE,oE,oE,oE,oE,oE,oE,oE,oE,oE,oE,oE,oE,oE,oE,oE,oE,oE,oE,oE,oE,oE,oE,oE,oE,oE,oE,oE,oE,oE,oE,oE,oE,oE,oE,oE,oE,oE,oE,oE,oE,oE,oE,oE,oE,oE,oE,oE,oE,oE,oE,oE,oE]
theorem xUt (a b c d e f g h i j k l m n o p q r s t u v w x y z A B C D E F G H I J K L M N O P Q R S T U V W X Y Z a0 a1 a2 a3 a4 a5 a6 a7 a8 a9 b0 b1 b2 b3 b4 b5 b6 b7 b8 b9 c0 c1 c2 c3 c4 c5 c6 c7 : AV) : xA6 xOz [a,b,c,d,e,f,g,h,i,j,k,l,m,n,o,p,q,r,s,t,u,v,w,x,y,z,A,B,C,D,E,F,G,H,I,J,K,L,M,N,O,P,Q,R,S,T,U,V,W,X,Y,Z,a0,a1,a2,a3,a4,a5,a6,a7,a8,a9,b0,b1,b2,b3,b4,b5,b6,b7,b8,b9,c0,c1,c2,c3,c4,c5,c6,c7] = xNh b c d h i := by kernel_rfl
theorem yAu {prog : Nat → Option AFunc} (s1 s2 s3 s7 s8 : AV) (H : Heap) : (lim prog).loop xOz xXh ⟨xNh s1 s2 s3 s7 s8,H⟩ = xBv (lim prog) xOz xXh (run (lim prog) xUs ⟨xNh s1 s2 s3 s7 s8,H⟩) := xAN _ _ _ _ (by kernel_rfl)
def xNi : ACode :=
 .seq (oR ([oT 36 10,
 oF 37 4 3,
 oH 38 1 37,
 oN 39 38,
 oB 40 .lss 36 39])
 (.cond (.t 40)
 .skip
 (.exit 4)))
 (.seq (.block 5 (.seq (.draw 12 [oF 43 4 3,
 oH 44 1 43,
 oT 45 10,
 oO 46 (.iaddr 4 (.t 44) (.t 45)),
 oF 47 0 46,
 oH 48 1 47,
 oF 49 4 3,
 oH 50 1 49,
 oT 51 10,
 oO 52 (.iaddr 4 (.t 50) (.t 51)),
 oF 53 1 52,
 oH 54 1 53,
 oT 11 48,
 oT 12 54])
 (.seq (oR ([oT 55 2])
 (.cond (.t 55)
 (.region [oT 56 12,
 oT 57 11,
 oT 11 56,
 oT 12 57])
 .skip))
 (oR ([oT 58 7,
 oT 59 11,
 oO 60 (.iaddr 1 (.t 58) (.t 59)),
 oH 61 1 60])
 (.cond (.t 61)
 (.region [oT 62 7,
 oT 63 12,
 oO 64 (.iaddr 1 (.t 62) (.t 63)),
 ⟨none,.store 1 (.t 64) (.c (.bool true)),none⟩])
 .skip)))))
 (.region [oT 41 10,
 oA 42 .add 41 (.c (oI 1)),
 oT 10 42]))
def xVT : ACode := xNi
def xNj : List Nat := [0,1,4,5,6,8,11,12,13,14,15,16,17,18,19,20,21,22,23,24,25,26,27,28,29,30,31,32,33,34,35,36,37,38,39,40,41,42,43,44,45,46,47,48,49,50,51,52,53,54,55,56,57,58,59,60,61,62,63,64,65,66,67,68,69,70,71,72,73,74,75,76,77,78,79]
abbrev xL7 (s2 s3 s7 s9 s10 : AV) : List AV := [oE,oE,s2,s3,oE,oE,oE,s7,oE,s9,s10,oE,oE,oE,oE,oE,oE,oE,oE,oE,oE,oE,oE,oE,oE,oE,oE,oE,oE,oE,oE,oE,oE,oE,oE,oE,oE,oE,oE,oE,oE,oE,oE,oE,oE,oE,oE,oE,oE,oE,oE,oE,oE,oE,oE,oE,oE,oE,oE,oE,oE,oE,oE,oE,oE,oE,oE,oE,oE,oE,oE,oE,oE,oE,oE,oE,oE,oE,oE,oE]
theorem xOA (a b c d e f g h i j k l m n o p q r s t u v w x y z A B C D E F G H I J K L M N O P Q R S T U V W X Y Z a0 a1 a2 a3 a4 a5 a6 a7 a8 a9 b0 b1 b2 b3 b4 b5 b6 b7 b8 b9 c0 c1 c2 c3 c4 c5 c6 c7 : AV) : xA6 xNj [a,b,c,d,e,f,g,h,i,j,k,l,m,n,o,p,q,r,s,t,u,v,w,x,y,z,A,B,C,D,E,F,G,H,I,J,K,L,M,N,O,P,Q,R,S,T,U,V,W,X,Y,Z,a0,a1,a2,a3,a4,a5,a6,a7,a8,a9,b0,b1,b2,b3,b4,b5,b6,b7,b8,b9,c0,c1,c2,c3,c4,c5,c6,c7] = xL7 c d h j k := by kernel_rfl
theorem xRR {prog : Nat → Option AFunc} (s2 s3 s7 s9 s10 : AV) (H : Heap) : (lim prog).loop xNj xVT ⟨xL7 s2 s3 s7 s9 s10,H⟩ = xBv (lim prog) xNj xVT (run (lim prog) xNi ⟨xL7 s2 s3 s7 s9 s10,H⟩) := xAN _ _ _ _ (by kernel_rfl)
def xUu : ACode :=
 .seq (oR ([oT 30 9,
 oF 31 1 3,
 oH 32 1 31,
 oB 33 .lss 30 32])
 (.cond (.t 33)
 .skip
 (.exit 2)))
 (.seq (.block 3 (oR ([oM 10 (.c (oI 0))])
 (.block 4 (.loop xNj xVT))))
 (.region [oT 34 9,
 oA 35 .add 34 (.c (oI 1)),
 oT 9 35]))
def xXi : ACode := xUu
def xOB : List Nat := [0,1,4,5,6,8,10,11,12,13,14,15,16,17,18,19,20,21,22,23,24,25,26,27,28,29,30,31,32,33,34,35,36,37,38,39,40,41,42,43,44,45,46,47,48,49,50,51,52,53,54,55,56,57,58,59,60,61,62,63,64,65,66,67,68,69,70,71,72,73,74,75,76,77,78,79]
abbrev xNk (s2 s3 s7 s9 : AV) : List AV := [oE,oE,s2,s3,oE,oE,oE,s7,oE,s9,oE,oE,oE,oE,oE,oE,oE,oE,oE,oE,oE,oE,oE,oE,oE,oE,oE,oE,oE,oE,oE,oE,oE,oE,oE,oE,oE,oE,oE,oE,oE,oE,oE,oE,oE,oE,oE,oE,oE,oE,oE,oE,oE,oE,oE,oE,oE,oE,oE,oE,oE,oE,oE,oE,oE,oE,oE,oE,oE,oE,oE,oE,oE,oE,oE,oE,oE,oE,oE,oE]
theorem xUv (a b c d e f g h i j k l m n o p q r s t u v w x y z A B C D E F G H I J K L M N O P Q R S T U V W X Y Z a0 a1 a2 a3 a4 a5 a6 a7 a8 a9 b0 b1 b2 b3 b4 b5 b6 b7 b8 b9 c0 c1 c2 c3 c4 c5 c6 c7 : AV) : xA6 xOB [a,b,c,d,e,f,g,h,i,j,k,l,m,n,o,p,q,r,s,t,u,v,w,x,y,z,A,B,C,D,E,F,G,H,I,J,K,L,M,N,O,P,Q,R,S,T,U,V,W,X,Y,Z,a0,a1,a2,a3,a4,a5,a6,a7,a8,a9,b0,b1,b2,b3,b4,b5,b6,b7,b8,b9,c0,c1,c2,c3,c4,c5,c6,c7] = xNk c d h j := by kernel_rfl
theorem yAv {prog : Nat → Option AFunc} (s2 s3 s7 s9 : AV) (H : Heap) : (lim prog).loop xOB xXi ⟨xNk s2 s3 s7 s9,H⟩ = xBv (lim prog) xOB xXi (run (lim prog) xUu ⟨xNk s2 s3 s7 s9,H⟩) := xAN _ _ _ _ (by kernel_rfl)
def xOC : ACode :=
 .seq (oR ([oT 65 14,
 oF 66 1 3,
 oH 67 1 66,
 oB 68 .lss 65 67])
 (.cond (.t 68)
 .skip
 (.exit 6)))
 (.seq (.block 7 (oR ([oT 71 7,
 oT 72 14,
 oO 73 (.iaddr 1 (.t 71) (.t 72)),
 oH 74 1 73])
 (.cond (.t 74)
 (.region [oT 75 13,
 oT 76 14,
 oO 77 (.bslice true [oI 0] 1 1 [(0,.t 76)]),
 oO 78 (.append false 1 8 (.t 75) (.t 77)),
 oT 13 78])
 .skip)))
 (.region [oT 69 14,
 oA 70 .add 69 (.c (oI 1)),
 oT 14 70]))
def xXj : ACode := xOC
def xOD : List Nat := [0,1,2,4,5,6,8,9,10,11,12,15,16,17,18,19,20,21,22,23,24,25,26,27,28,29,30,31,32,33,34,35,36,37,38,39,40,41,42,43,44,45,46,47,48,49,50,51,52,53,54,55,56,57,58,59,60,61,62,63,64,65,66,67,68,69,70,71,72,73,74,75,76,77,78,79]
abbrev xOE (s3 s7 s13 s14 : AV) : List AV := [oE,oE,oE,s3,oE,oE,oE,s7,oE,oE,oE,oE,oE,s13,s14,oE,oE,oE,oE,oE,oE,oE,oE,oE,oE,oE,oE,oE,oE,oE,oE,oE,oE,oE,oE,oE,oE,oE,oE,oE,oE,oE,oE,oE,oE,oE,oE,oE,oE,oE,oE,oE,oE,oE,oE,oE,oE,oE,oE,oE,oE,oE,oE,oE,oE,oE,oE,oE,oE,oE,oE,oE,oE,oE,oE,oE,oE,oE,oE,oE]
theorem xOF (a b c d e f g h i j k l m n o p q r s t u v w x y z A B C D E F G H I J K L M N O P Q R S T U V W X Y Z a0 a1 a2 a3 a4 a5 a6 a7 a8 a9 b0 b1 b2 b3 b4 b5 b6 b7 b8 b9 c0 c1 c2 c3 c4 c5 c6 c7 : AV) : xA6 xOD [a,b,c,d,e,f,g,h,i,j,k,l,m,n,o,p,q,r,s,t,u,v,w,x,y,z,A,B,C,D,E,F,G,H,I,J,K,L,M,N,O,P,Q,R,S,T,U,V,W,X,Y,Z,a0,a1,a2,a3,a4,a5,a6,a7,a8,a9,b0,b1,b2,b3,b4,b5,b6,b7,b8,b9,c0,c1,c2,c3,c4,c5,c6,c7] = xOE d h n o := by kernel_rfl
theorem xUw {prog : Nat → Option AFunc} (s3 s7 s13 s14 : AV) (H : Heap) : (lim prog).loop xOD xXj ⟨xOE s3 s7 s13 s14,H⟩ = xBv (lim prog) xOD xXj (run (lim prog) xOC ⟨xOE s3 s7 s13 s14,H⟩) := xAN _ _ _ _ (by kernel_rfl)
def a35 : AFunc := ⟨80,
 oR ([oX 3 (.t 0),
 oM 6 (.c (oS))])
 (oR ([oF 15 1 3,
 oH 16 1 15,
 oO 17 (.mkslice false [.bool false] 1 (.t 16) (.t 16)),
 oT 7 17])
 (.seq (oR ([oM 8 (.c (oI 0))])
 (.block 0 (.loop xOz xXh)))
 (.seq (oR ([oM 9 (.c (oI 0))])
 (.block 2 (.loop xOB xXi)))
 (oR ([oM 13 (.c (oS))])
 (.seq (oR ([oM 14 (.c (oI 0))])
 (.block 6 (.loop xOD xXj)))
 (oR ([oT 79 13,
 oT 6 79])
 .ret)))))),
 [.tmp 6]⟩
def xOG : ACode :=
 .seq (oR ([oT 16 5,
 oA 17 .lss 16 (.c (oI 64))])
 (.cond (.t 17)
 .skip
 (.exit 2)))
 (.seq (.block 3 (oR ([oT 20 0,
 oT 21 4,
 oO 22 (.iaddr 1 (.t 20) (.t 21)),
 oH 23 1 22,
 oT 24 5,
 oO 25 (.conv .u64 (.t 24)),
 oB 26 .shr 23 25,
 oA 27 .rem 26 (.c (.int .u64 2)),
 oA 28 .eql 27 (.c (.int .u64 1))])
 (.cond (.t 28)
 (.region [oT 29 3,
 oT 30 4,
 oO 31 (.bin .mul (.c (oI 64)) (.t 30)),
 oT 32 5,
 oB 33 .add 31 32,
 oO 34 (.bslice true [oI 0] 1 1 [(0,.t 33)]),
 oO 35 (.append false 1 8 (.t 29) (.t 34)),
 oT 3 35])
 .skip)))
 (.region [oT 18 5,
 oA 19 .add 18 (.c (oI 1)),
 oT 5 19]))
def xZx : ACode := xOG
def xRS : List Nat := [1,2,6,7,8,9,10,11,12,13,14,15,16,17,18,19,20,21,22,23,24,25,26,27,28,29,30,31,32,33,34,35,36]
abbrev xRT (s0 s3 s4 s5 : AV) : List AV := [s0,oE,oE,s3,s4,s5,oE,oE,oE,oE,oE,oE,oE,oE,oE,oE,oE,oE,oE,oE,oE,oE,oE,oE,oE,oE,oE,oE,oE,oE,oE,oE,oE,oE,oE,oE,oE]
theorem xRU (a b c d e f g h i j k l m n o p q r s t u v w x y z A B C D E F G H I J K : AV) : xA6 xRS [a,b,c,d,e,f,g,h,i,j,k,l,m,n,o,p,q,r,s,t,u,v,w,x,y,z,A,B,C,D,E,F,G,H,I,J,K] = xRT a d e f := by kernel_rfl
theorem xUx {prog : Nat → Option AFunc} (s0 s3 s4 s5 : AV) (H : Heap) : (lim prog).loop xRS xZx ⟨xRT s0 s3 s4 s5,H⟩ = xBv (lim prog) xRS xZx (run (lim prog) xOG ⟨xRT s0 s3 s4 s5,H⟩) := xAN _ _ _ _ (by kernel_rfl)
def xRV : ACode :=
 .seq (oR ([oT 6 4,
 oT 7 0,
 oN 8 7,
 oB 9 .lss 6 8,
 oT 10 9,
 ⟨some 11,.mov (.t 4),some (10,true)⟩,
 ⟨some 12,.bin .lss (.t 11) (.c (oI 64)),some (10,true)⟩,
 oO 13 (.pick (.t 10) (.t 12) (.c (.bool false)))])
 (.cond (.t 13)
 .skip
 (.exit 0)))
 (.seq (.block 1 (oR ([oM 5 (.c (oI 0))])
 (.block 2 (.loop xRS xZx))))
 (.region [oT 14 4,
 oA 15 .add 14 (.c (oI 1)),
 oT 4 15]))
def xZy : ACode := xRV
def xRW : List Nat := [1,2,5,6,7,8,9,10,11,12,13,14,15,16,17,18,19,20,21,22,23,24,25,26,27,28,29,30,31,32,33,34,35,36]
abbrev xRX (s0 s3 s4 : AV) : List AV := [s0,oE,oE,s3,s4,oE,oE,oE,oE,oE,oE,oE,oE,oE,oE,oE,oE,oE,oE,oE,oE,oE,oE,oE,oE,oE,oE,oE,oE,oE,oE,oE,oE,oE,oE,oE,oE]
theorem xRY (a b c d e f g h i j k l m n o p q r s t u v w x y z A B C D E F G H I J K : AV) : xA6 xRW [a,b,c,d,e,f,g,h,i,j,k,l,m,n,o,p,q,r,s,t,u,v,w,x,y,z,A,B,C,D,E,F,G,H,I,J,K] = xRX a d e := by kernel_rfl
theorem yAw {prog : Nat → Option AFunc} (s0 s3 s4 : AV) (H : Heap) : (lim prog).loop xRW xZy ⟨xRX s0 s3 s4,H⟩ = xBv (lim prog) xRW xZy (run (lim prog) xRV ⟨xRX s0 s3 s4,H⟩) := xAN _ _ _ _ (by kernel_rfl)
def a36 : AFunc := ⟨37,
 oR ([oM 2 (.c (oS))])
 (oR ([oM 3 (.c (oS))])
 (.seq (oR ([oM 4 (.c (oI 0))])
 (.block 0 (.loop xRW xZy)))
 (oR ([oT 36 3,
 oT 2 36])
 .ret))),
 [.tmp 2]⟩
def xOH : ACode :=
 .seq (oR ([oT 10 7,
 oT 11 6,
 oN 12 11,
 oB 13 .lss 10 12])
 (.cond (.t 13)
 .skip
 (.exit 0)))
 (.seq (.block 1 (.seq (.draw 6 [oT 16 1,
 oO 17 (.call 36 [.t 16]),
 oT 18 6,
 oT 19 7,
 oO 20 (.iaddr 1 (.t 18) (.t 19)),
 oH 21 1 20,
 oO 22 (.call 65 [.t 17,.t 21])])
 (.cond (.t 22)
 (.region [oT 23 5,
 oT 24 6,
 oT 25 7,
 oO 26 (.iaddr 1 (.t 24) (.t 25)),
 oH 27 1 26,
 oO 28 (.bslice true [oI 0] 1 1 [(0,.t 27)]),
 oO 29 (.append false 1 8 (.t 23) (.t 28)),
 oT 5 29])
 .skip)))
 (.region [oT 14 7,
 oA 15 .add 14 (.c (oI 1)),
 oT 7 15]))
def xXk : ACode := xOH
def xOI : List Nat := [0,2,3,4,8,9,10,11,12,13,14,15,16,17,18,19,20,21,22,23,24,25,26,27,28,29,30,31]
abbrev xOJ (s1 s5 s6 s7 : AV) : List AV := [oE,s1,oE,oE,oE,s5,s6,s7,oE,oE,oE,oE,oE,oE,oE,oE,oE,oE,oE,oE,oE,oE,oE,oE,oE,oE,oE,oE,oE,oE,oE,oE]
theorem xOK (a b c d e f g h i j k l m n o p q r s t u v w x y z A B C D E F : AV) : xA6 xOI [a,b,c,d,e,f,g,h,i,j,k,l,m,n,o,p,q,r,s,t,u,v,w,x,y,z,A,B,C,D,E,F] = xOJ b f g h := by kernel_rfl
theorem xUy {prog : Nat → Option AFunc} (s1 s5 s6 s7 : AV) (H : Heap) : (lim prog).loop xOI xXk ⟨xOJ s1 s5 s6 s7,H⟩ = xBv (lim prog) xOI xXk (run (lim prog) xOH ⟨xOJ s1 s5 s6 s7,H⟩) := xAN _ _ _ _ (by kernel_rfl)
def a37 : AFunc := ⟨32,
 oR ([oM 4 (.c (oS))])
 (oR ([oM 5 (.c (oS))])
 (oR ([oT 8 0,
 oO 9 (.call 36 [.t 8]),
 oT 6 9])
 (.seq (oR ([oM 7 (.c (oI 0))])
 (.block 0 (.loop xOI xXk)))
 (oR ([oT 30 5,
 oO 31 (.call 38 [.t 30]),
 oT 4 31])
 .ret)))),
 [.tmp 4]⟩
def xRZ : ACode :=
 .seq (oR ([oT 22 3,
 oN 23 22,
 oT 24 5,
 oA 25 .quo 24 (.c (oI 64)),
 oB 26 .leq 23 25])
 (.cond (.t 26)
 .skip
 (.exit 2)))
 (.block 3 (.region [oT 27 3,
 oO 28 (.bslice true [.int .u64 0] 1 1 [(0,(.c (.int .u64 0)))]),
 oO 29 (.append false 1 8 (.t 27) (.t 28)),
 oT 3 29]))
def xZz : ACode := xRZ
def xR0 : List Nat := [1,2,6,7,8,9,10,11,12,13,14,15,16,17,18,19,20,21,22,23,24,25,26,27,28,29,30,31,32,33,34,35,36,37,38,39,40,41,42,43,44]
abbrev xR1 (s0 s3 s4 s5 : AV) : List AV := [s0,oE,oE,s3,s4,s5,oE,oE,oE,oE,oE,oE,oE,oE,oE,oE,oE,oE,oE,oE,oE,oE,oE,oE,oE,oE,oE,oE,oE,oE,oE,oE,oE,oE,oE,oE,oE,oE,oE,oE,oE,oE,oE,oE,oE]
theorem xUz (a b c d e f g h i j k l m n o p q r s t u v w x y z A B C D E F G H I J K L M N O P Q R S : AV) : xA6 xR0 [a,b,c,d,e,f,g,h,i,j,k,l,m,n,o,p,q,r,s,t,u,v,w,x,y,z,A,B,C,D,E,F,G,H,I,J,K,L,M,N,O,P,Q,R,S] = xR1 a d e f := by kernel_rfl
theorem xXl {prog : Nat → Option AFunc} (s0 s3 s4 s5 : AV) (H : Heap) : (lim prog).loop xR0 xZz ⟨xR1 s0 s3 s4 s5,H⟩ = xBv (lim prog) xR0 xZz (run (lim prog) xRZ ⟨xR1 s0 s3 s4 s5,H⟩) := xAN _ _ _ _ (by kernel_rfl)
def xUA : ACode :=
 .seq (oR ([oT 6 4,
 oT 7 0,
 oN 8 7,
 oB 9 .lss 6 8])
 (.cond (.t 9)
 .skip
 (.exit 0)))
 (.seq (.block 1 (oR ([oT 12 0,
 oT 13 4,
 oO 14 (.iaddr 1 (.t 12) (.t 13)),
 oH 15 1 14,
 oT 5 15])
 (.seq (oR ([oT 16 5,
 oA 17 .lss 16 (.c (oI 0)),
 oT 18 17,
 ⟨some 19,.mov (.t 5),some (18,false)⟩,
 ⟨some 20,.bin .gtr (.t 19) (.c (oI 4095)),some (18,false)⟩,
 oO 21 (.pick (.t 18) (.c (.bool true)) (.t 20))])
 (.cond (.t 21)
 (.exit 1)
 .skip))
 (.seq (.block 2 (.loop xR0 xZz))
 (.region [oT 30 3,
 oT 31 5,
 oA 32 .quo 31 (.c (oI 64)),
 oT 33 3,
 oT 34 5,
 oA 35 .quo 34 (.c (oI 64)),
 oO 36 (.iaddr 1 (.t 33) (.t 35)),
 oH 37 1 36,
 oT 38 5,
 oA 39 .rem 38 (.c (oI 64)),
 oO 40 (.conv .u64 (.t 39)),
 oO 41 (.bin .shl (.c (.int .u64 1)) (.t 40)),
 oB 42 .or 37 41,
 oO 43 (.iaddr 1 (.t 30) (.t 32)),
 ⟨none,.store 1 (.t 43) (.t 42),none⟩])))))
 (.region [oT 10 4,
 oA 11 .add 10 (.c (oI 1)),
 oT 4 11]))
def xZA : ACode := xUA
def xR2 : List Nat := [1,2,5,6,7,8,9,10,11,12,13,14,15,16,17,18,19,20,21,22,23,24,25,26,27,28,29,30,31,32,33,34,35,36,37,38,39,40,41,42,43,44]
abbrev xR3 (s0 s3 s4 : AV) : List AV := [s0,oE,oE,s3,s4,oE,oE,oE,oE,oE,oE,oE,oE,oE,oE,oE,oE,oE,oE,oE,oE,oE,oE,oE,oE,oE,oE,oE,oE,oE,oE,oE,oE,oE,oE,oE,oE,oE,oE,oE,oE,oE,oE,oE,oE]
theorem xUB (a b c d e f g h i j k l m n o p q r s t u v w x y z A B C D E F G H I J K L M N O P Q R S : AV) : xA6 xR2 [a,b,c,d,e,f,g,h,i,j,k,l,m,n,o,p,q,r,s,t,u,v,w,x,y,z,A,B,C,D,E,F,G,H,I,J,K,L,M,N,O,P,Q,R,S] = xR3 a d e := by kernel_rfl
theorem yAx {prog : Nat → Option AFunc} (s0 s3 s4 : AV) (H : Heap) : (lim prog).loop xR2 xZA ⟨xR3 s0 s3 s4,H⟩ = xBv (lim prog) xR2 xZA (run (lim prog) xUA ⟨xR3 s0 s3 s4,H⟩) := xAN _ _ _ _ (by kernel_rfl)
def a38 : AFunc := ⟨45,
 oR ([oM 2 (.c (oS))])
 (oR ([oM 3 (.c (oS))])
 (.seq (oR ([oM 4 (.c (oI 0))])
 (.block 0 (.loop xR2 xZA)))
 (oR ([oT 44 3,
 oT 2 44])
 .ret))),
 [.tmp 2]⟩
def xR4 : ACode :=
 .seq (oR ([oT 6 5,
 oT 7 0,
 oN 8 7,
 oB 9 .lss 6 8])
 (.cond (.t 9)
 .skip
 (.exit 0)))
 (.seq (.block 1 (oR ([oT 12 0,
 oT 13 5,
 oO 14 (.iaddr 1 (.t 12) (.t 13)),
 oH 15 1 14,
 oT 16 1,
 oB 17 .eql 15 16])
 (.cond (.t 17)
 (oR ([oT 18 5,
 oT 4 18])
 .ret)
 .skip)))
 (.region [oT 10 5,
 oA 11 .add 10 (.c (oI 1)),
 oT 5 11]))
def xXm : ACode := xR4
def xOL : List Nat := [2,3,6,7,8,9,10,11,12,13,14,15,16,17,18]
abbrev xNl (s0 s1 s4 s5 : AV) : List AV := [s0,s1,oE,oE,s4,s5,oE,oE,oE,oE,oE,oE,oE,oE,oE,oE,oE,oE,oE]
theorem xR5 (a b c d e f g h i j k l m n o p q r s : AV) : xA6 xOL [a,b,c,d,e,f,g,h,i,j,k,l,m,n,o,p,q,r,s] = xNl a b e f := by kernel_rfl
theorem xXn {prog : Nat → Option AFunc} (s0 s1 s4 s5 : AV) (H : Heap) : (lim prog).loop xOL xXm ⟨xNl s0 s1 s4 s5,H⟩ = xBv (lim prog) xOL xXm (run (lim prog) xR4 ⟨xNl s0 s1 s4 s5,H⟩) := xAN _ _ _ _ (by kernel_rfl)
def a39 : AFunc := ⟨19,
 oR ([oM 4 (.c (oI 0))])
 (.seq (oR ([oM 5 (.c (oI 0))])
 (.block 0 (.loop xOL xXm)))
 (oR ([oM 4 (.c (.int .i64 (-1)))])
 .ret)),
 [.tmp 4]⟩
def a40 : AFunc := ⟨5,
 oR ([oM 2 (.c (oS))])
 (oR ([oT 3 0,
 oO 4 (.append false 1 8 (.c (oS)) (.t 3)),
 oT 2 4])
 .ret),
 [.tmp 2]⟩
def a41 : AFunc := ⟨5,
 oR ([oM 2 (.c (oS))])
 (oR ([oT 3 0,
 oO 4 (.append false 4 24 (.c (oS)) (.t 3)),
 oT 2 4])
 .ret),
 [.tmp 2]⟩
def xUC : ACode :=
 .seq (oR ([oT 7 5,
 oO 8 (.icall (.t 7) [])])
 (.cond (.t 8)
 .skip
 (.exit 0)))
 (.block 1 .skip)
def xZB : ACode := xUC
def xR6 : List Nat := [0,1,3,4,6,7,8,9]
abbrev xR7 (s2 s5 : AV) : List AV := [oE,oE,s2,oE,oE,s5,oE,oE,oE,oE]
theorem xUD (a b c d e f g h i j : AV) : xA6 xR6 [a,b,c,d,e,f,g,h,i,j] = xR7 c f := by kernel_rfl
theorem yAy {prog : Nat → Option AFunc} (s2 s5 : AV) (H : Heap) : (lim prog).loop xR6 xZB ⟨xR7 s2 s5,H⟩ = xBv (lim prog) xR6 xZB (run (lim prog) xUC ⟨xR7 s2 s5,H⟩) := xAN _ _ _ _ (by kernel_rfl)
def a42 : AFunc := ⟨10,
 oR ([oX 2 (.t 0),
 oX 3 (.t 1),
 oM 4 (.c (oS))])
 (oR ([oO 6 (.mkfunc 66 [.t 3,.t 2]),
 oT 5 6])
 (.seq (.block 0 (.loop xR6 xZB))
 (oR ([oH 9 1 2,
 oT 4 9])
 .ret))),
 [.tmp 4]⟩
def xNm : ACode :=
 oR ([oB 8 .lss 7 6])
 (.seq (.cond (.t 8)
 .skip
 (.exit 0))
 (.seq (.block 1 (oR ([oO 9 (.iaddr 1 (.t 5) (.t 7)),
 oH 10 1 9,
 oT 4 10])
 (.region [oT 11 2,
 oT 12 4,
 oO 13 (.ocall 68 [.t 11,.t 12]),
 oT 2 13])))
 (.region [oA 14 .add 7 (.c (oI 1)),
 oT 7 14])))
def xZC : ACode := xNm
def xR8 : List Nat := [0,1,3,4,8,9,10,11,12,13,14,15]
abbrev xR9 (s2 s5 s6 s7 : AV) : List AV := [oE,oE,s2,oE,oE,s5,s6,s7,oE,oE,oE,oE,oE,oE,oE,oE]
theorem xKh (a b c d e f g h i j k l m n o p : AV) : xA6 xR8 [a,b,c,d,e,f,g,h,i,j,k,l,m,n,o,p] = xR9 c f g h := by kernel_rfl
theorem xSa {prog : Nat → Option AFunc} (s2 s5 s6 s7 : AV) (H : Heap) : (lim prog).loop xR8 xZC ⟨xR9 s2 s5 s6 s7,H⟩ = xBv (lim prog) xR8 xZC (run (lim prog) xNm ⟨xR9 s2 s5 s6 s7,H⟩) := xAN _ _ _ _ (by kernel_rfl)
def a43 : AFunc := ⟨16,
 oR ([oM 2 (.c (oS))])
 (.seq (oR ([oT 5 0,
 oN 6 5,
 oM 7 (.c (oI 0))])
 (.block 0 (.loop xR8 xZC)))
 (oR ([oT 15 2,
 oT 2 15])
 .ret)),
 [.tmp 2]⟩
def xQq : ACode :=
 .region [oT 3 6]
def xUE : ACode :=
 .block 1 (.region [oH 7 1 2,
 oT 8 3,
 oO 9 (.bslice true [oI 0] 1 1 [(0,.t 8)]),
 oO 10 (.append false 1 8 (.t 7) (.t 9)),
 ⟨none,.store 1 (.t 2) (.t 10),none⟩])
def xUF : ACode := xQq
def xZD : ACode := xUE
theorem xXo (R : Rec) (s : St) : run R xUF s = run R xQq s := rfl
theorem yAz (R : Rec) (s : St) : run R xZD s = run R xUE s := rfl
def a44 : AFunc := ⟨12,
 oR ([oX 2 (.c (oS))])
 (.seq (oR ([oT 4 0,
 oO 5 (.icall (.c (.func 69 [])) [.t 4])])
 (.block 0 (.range (.t 5) [6] xUF xZD)))
 (oR ([oH 11 1 2,
 ⟨none,.store 1 (.t 2) (.t 11),none⟩])
 .ret)),
 [.cell 2 false 1]⟩
def a45 : AFunc := ⟨8,
 oR ([oM 4 (.c (oS))])
 (oR ([oT 5 0,
 oT 6 1,
 oO 7 (.icall (.c (.func 70 [])) [.t 5,.t 6,(.c (.func 71 []))]),
 oT 4 7])
 .ret),
 [.tmp 4]⟩
def a46 : AFunc := ⟨10,
 oR ([oM 3 (.c (oI 0)),
 oM 4 (.c (.bool false))])
 (oR ([oH 5 1 1,
 oT 6 0,
 oO 7 (.call 47 [.t 5,.t 6]),
 oO 8 (.ext 0 (.t 7)),
 oO 9 (.ext 1 (.t 7)),
 oT 3 8,
 oT 4 9])
 .ret),
 [.tmp 3,.tmp 4]⟩
def xOM : ACode :=
 .seq (oR ([oT 13 7,
 oT 14 8,
 oB 15 .lss 13 14])
 (.cond (.t 15)
 .skip
 (.exit 0)))
 (.block 1 (oR ([oT 16 7,
 oT 17 8,
 oB 18 .add 16 17,
 oO 19 (.conv .u64 (.t 18)),
 oA 20 .shr 19 (.c (.int .u64 1)),
 oO 21 (.conv .i64 (.t 20)),
 oT 9 21])
 (oR ([oT 22 0,
 oT 23 9,
 oO 24 (.iaddr 1 (.t 22) (.t 23)),
 oH 25 1 24,
 oT 26 1,
 oO 27 (.call 72 [.t 25,.t 26])])
 (.cond (.t 27)
 (.region [oT 28 9,
 oA 29 .add 28 (.c (oI 1)),
 oT 7 29])
 (.region [oT 30 9,
 oT 8 30])))))
def xZE : ACode := xOM
def xSb : List Nat := [2,3,4,5,9,10,11,12,13,14,15,16,17,18,19,20,21,22,23,24,25,26,27,28,29,30,31,32,33,34,35,36,37,38,39,40,41,42,43,44,45,46,47,48,49,50,51,52,53]
abbrev xSc (s0 s1 s6 s7 s8 : AV) : List AV := [s0,s1,oE,oE,oE,oE,s6,s7,s8,oE,oE,oE,oE,oE,oE,oE,oE,oE,oE,oE,oE,oE,oE,oE,oE,oE,oE,oE,oE,oE,oE,oE,oE,oE,oE,oE,oE,oE,oE,oE,oE,oE,oE,oE,oE,oE,oE,oE,oE,oE,oE,oE,oE,oE]
theorem xNn (a b c d e f g h i j k l m n o p q r s t u v w x y z A B C D E F G H I J K L M N O P Q R S T U V W X Y Z a0 a1 : AV) : xA6 xSb [a,b,c,d,e,f,g,h,i,j,k,l,m,n,o,p,q,r,s,t,u,v,w,x,y,z,A,B,C,D,E,F,G,H,I,J,K,L,M,N,O,P,Q,R,S,T,U,V,W,X,Y,Z,a0,a1] = xSc a b g h i := by kernel_rfl
theorem xUG {prog : Nat → Option AFunc} (s0 s1 s6 s7 s8 : AV) (H : Heap) : (lim prog).loop xSb xZE ⟨xSc s0 s1 s6 s7 s8,H⟩ = xBv (lim prog) xSb xZE (run (lim prog) xOM ⟨xSc s0 s1 s6 s7 s8,H⟩) := xAN _ _ _ _ (by kernel_rfl)
def a47 : AFunc := ⟨54,
 oR ([oM 4 (.c (oI 0)),
 oM 5 (.c (.bool false))])
 (oR ([oT 10 0,
 oN 11 10,
 oT 6 11])
 (oR ([oT 12 6,
 oM 7 (.c (oI 0)),
 oT 8 12])
 (.seq (.block 0 (.loop xSb xZE))
 (oR ([oT 31 7,
 oT 32 7,
 oT 33 6,
 oB 34 .lss 32 33,
 oT 35 34,
 ⟨some 36,.mov (.t 0),some (35,true)⟩,
 ⟨some 37,.mov (.t 7),some (35,true)⟩,
 ⟨some 38,.iaddr 1 (.t 36) (.t 37),some (35,true)⟩,
 ⟨some 39,.load false 1 (.t 38),some (35,true)⟩,
 ⟨some 40,.mov (.t 1),some (35,true)⟩,
 ⟨some 41,.bin .eql (.t 39) (.t 40),some (35,true)⟩,
 ⟨some 42,.mov (.t 41),some (35,true)⟩,
 ⟨some 43,.mov (.t 0),some (42,false)⟩,
 ⟨some 44,.mov (.t 7),some (42,false)⟩,
 ⟨some 45,.iaddr 1 (.t 43) (.t 44),some (42,false)⟩,
 ⟨some 46,.load false 1 (.t 45),some (42,false)⟩,
 ⟨some 47,.call 73 [.t 46],some (42,false)⟩,
 ⟨some 48,.mov (.t 47),some (42,false)⟩,
 ⟨some 49,.mov (.t 1),some (48,true)⟩,
 ⟨some 50,.call 73 [.t 49],some (48,true)⟩,
 ⟨some 51,.pick (.t 48) (.t 50) (.c (.bool false)),some (42,false)⟩,
 ⟨some 52,.pick (.t 42) (.c (.bool true)) (.t 51),some (35,true)⟩,
 oO 53 (.pick (.t 35) (.t 52) (.c (.bool false))),
 oT 4 31,
 oT 5 53])
 .ret)))),
 [.tmp 4,.tmp 5]⟩
def a48 : AFunc := ⟨8,
 oR ([oM 2 (.c (oS))])
 (.seq (oR ([oT 3 0,
 oO 4 (.isnil false (.t 3))])
 (.cond (.t 4)
 (oR ([oM 2 (.c (oS))])
 .ret)
 .skip))
 (oR ([oO 5 (.bslice false [oI 0] 1 0 []),
 oT 6 0,
 oO 7 (.append false 1 8 (.t 5) (.t 6)),
 oT 2 7])
 .ret)),
 [.tmp 2]⟩
def a49 : AFunc := ⟨8,
 oR ([oM 2 (.c (oS))])
 (.seq (oR ([oT 3 0,
 oO 4 (.isnil false (.t 3))])
 (.cond (.t 4)
 (oR ([oM 2 (.c (oS))])
 .ret)
 .skip))
 (oR ([oO 5 (.bslice false [oI 0,oI 0,.int .u8 0,.int .u8 0] 4 0 []),
 oT 6 0,
 oO 7 (.append false 4 24 (.t 5) (.t 6)),
 oT 2 7])
 .ret)),
 [.tmp 2]⟩
def xUH : ACode :=
 .seq (oR ([oT 11 5,
 oT 12 0,
 oN 13 12,
 oB 14 .lss 11 13])
 (.cond (.t 14)
 .skip
 (.exit 0)))
 (.seq (.block 1 (.seq (.draw 5 [oT 17 0,
 oT 18 5,
 oO 19 (.iaddr 4 (.t 17) (.t 18)),
 oG 20 4 19,
 oT 21 1,
 oT 22 5,
 oO 23 (.iaddr 4 (.t 21) (.t 22)),
 oG 24 4 23,
 oO 25 (.aeq true 4 (.t 20) (.t 24))])
 (.cond (.t 25)
 (oR ([oM 4 (.c (.bool false))])
 .ret)
 .skip)))
 (.region [oT 15 5,
 oA 16 .add 15 (.c (oI 1)),
 oT 5 16]))
def xZF : ACode := xUH
def xSd : List Nat := [2,3,6,7,8,9,10,11,12,13,14,15,16,17,18,19,20,21,22,23,24,25]
abbrev xSe (s0 s1 s4 s5 : AV) : List AV := [s0,s1,oE,oE,s4,s5,oE,oE,oE,oE,oE,oE,oE,oE,oE,oE,oE,oE,oE,oE,oE,oE,oE,oE,oE,oE]
theorem xXp (a b c d e f g h i j k l m n o p q r s t u v w x y z : AV) : xA6 xSd [a,b,c,d,e,f,g,h,i,j,k,l,m,n,o,p,q,r,s,t,u,v,w,x,y,z] = xSe a b e f := by kernel_rfl
theorem yAA {prog : Nat → Option AFunc} (s0 s1 s4 s5 : AV) (H : Heap) : (lim prog).loop xSd xZF ⟨xSe s0 s1 s4 s5,H⟩ = xBv (lim prog) xSd xZF (run (lim prog) xUH ⟨xSe s0 s1 s4 s5,H⟩) := xAN _ _ _ _ (by kernel_rfl)
def a50 : AFunc := ⟨26,
 oR ([oM 4 (.c (.bool false))])
 (.seq (oR ([oT 6 0,
 oN 7 6,
 oT 8 1,
 oN 9 8,
 oB 10 .neq 7 9])
 (.cond (.t 10)
 (oR ([oM 4 (.c (.bool false))])
 .ret)
 .skip))
 (.seq (oR ([oM 5 (.c (oI 0))])
 (.block 0 (.loop xSd xZF)))
 (oR ([oM 4 (.c (.bool true))])
 .ret))),
 [.tmp 4]⟩
def xSf : ACode :=
 .seq (oR ([oT 3 2,
 oT 4 0,
 oN 5 4,
 oB 6 .lss 3 5])
 (.cond (.t 6)
 .skip
 (.exit 0)))
 (.seq (.block 1 (.region [oT 9 0,
 oT 10 2,
 oO 11 (.iaddr 1 (.t 9) (.t 10)),
 ⟨none,.store 1 (.t 11) (.c (.int .i64 (-77))),none⟩]))
 (.region [oT 7 2,
 oA 8 .add 7 (.c (oI 1)),
 oT 2 8]))
def xZG : ACode := xSf
def xSg : List Nat := [1,3,4,5,6,7,8,9,10,11]
abbrev xSh (s0 s2 : AV) : List AV := [s0,oE,s2,oE,oE,oE,oE,oE,oE,oE,oE,oE]
theorem xUI (a b c d e f g h i j k l : AV) : xA6 xSg [a,b,c,d,e,f,g,h,i,j,k,l] = xSh a c := by kernel_rfl
theorem xXq {prog : Nat → Option AFunc} (s0 s2 : AV) (H : Heap) : (lim prog).loop xSg xZG ⟨xSh s0 s2,H⟩ = xBv (lim prog) xSg xZG (run (lim prog) xSf ⟨xSh s0 s2,H⟩) := xAN _ _ _ _ (by kernel_rfl)
def a51 : AFunc := ⟨12,
 oR ([oM 2 (.c (oI 0))])
 (.block 0 (.loop xSg xZG)),
 []⟩
def xSi : ACode :=
 .seq (oR ([oT 3 2,
 oT 4 0,
 oN 5 4,
 oB 6 .lss 3 5])
 (.cond (.t 6)
 .skip
 (.exit 0)))
 (.seq (.block 1 (.region [oT 9 0,
 oT 10 2,
 oO 11 (.build [oI 0,oI 0,.int .u8 0,.int .u8 0] [(0,1,(.c (.int .i64 (-7))))]),
 oO 12 (.iaddr 4 (.t 9) (.t 10)),
 ⟨none,.store 4 (.t 12) (.t 11),none⟩]))
 (.region [oT 7 2,
 oA 8 .add 7 (.c (oI 1)),
 oT 2 8]))
def xZH : ACode := xSi
def xSj : List Nat := [1,3,4,5,6,7,8,9,10,11,12]
abbrev xSk (s0 s2 : AV) : List AV := [s0,oE,s2,oE,oE,oE,oE,oE,oE,oE,oE,oE,oE]
theorem xUJ (a b c d e f g h i j k l m : AV) : xA6 xSj [a,b,c,d,e,f,g,h,i,j,k,l,m] = xSk a c := by kernel_rfl
theorem xXr {prog : Nat → Option AFunc} (s0 s2 : AV) (H : Heap) : (lim prog).loop xSj xZH ⟨xSk s0 s2,H⟩ = xBv (lim prog) xSj xZH (run (lim prog) xSi ⟨xSk s0 s2,H⟩) := xAN _ _ _ _ (by kernel_rfl)
def a52 : AFunc := ⟨13,
 oR ([oM 2 (.c (oI 0))])
 (.block 0 (.loop xSj xZH)),
 []⟩
def a53 : AFunc := ⟨10,
 oR ([oM 4 (.c (.bool false))])
 (oR ([oT 5 0,
 oT 6 1,
 oO 7 (.call 45 [.t 5,.t 6]),
 oN 8 7,
 oA 9 .gtr 8 (.c (oI 0)),
 oT 4 9])
 .ret),
 [.tmp 4]⟩
def a54 : AFunc := ⟨10,
 oR ([oM 1 (.c (.bool false))])
 (oR ([oF 2 0 0,
 oH 3 1 2,
 oA 4 .lss 3 (.c (oI 0)),
 oT 5 4,
 ⟨some 6,.faddr 0 (.t 0),some (5,false)⟩,
 ⟨some 7,.load false 1 (.t 6),some (5,false)⟩,
 ⟨some 8,.bin .gtr (.t 7) (.c (oI 6)),some (5,false)⟩,
 oO 9 (.pick (.t 5) (.c (.bool true)) (.t 8)),
 oT 1 9])
 .ret),
 [.tmp 1]⟩
def a55 : AFunc := ⟨5,
 oR ([oM 1 (.c (.bool false))])
 (oR ([oF 2 1 0,
 oH 3 1 2,
 oA 4 .lss 3 (.c (oI 0)),
 oT 1 4])
 .ret),
 [.tmp 1]⟩
def a56 : AFunc := ⟨11,
 oR ([oM 1 (.c (.bool false))])
 (oR ([oF 2 1 0,
 oH 3 1 2,
 oA 4 .gtr 3 (.c (oI 64)),
 oT 5 4,
 ⟨some 6,.faddr 4 (.t 0),some (5,false)⟩,
 ⟨some 7,.load false 1 (.t 6),some (5,false)⟩,
 ⟨some 8,.len (.t 7),some (5,false)⟩,
 ⟨some 9,.bin .gtr (.t 8) (.c (oI 512)),some (5,false)⟩,
 oO 10 (.pick (.t 5) (.c (.bool true)) (.t 9)),
 oT 1 10])
 .ret),
 [.tmp 1]⟩
def a57 : AFunc := ⟨14,
 oR ([oM 1 (.c (.bool false))])
 (oR ([oG 2 5 0,
 oF 3 2 0,
 oH 4 1 3,
 oO 5 (.call 58 [.t 2,.t 4]),
 oO 6 (.un .not (.t 5)),
 oT 7 6,
 ⟨some 8,.load true 5 (.t 0),some (7,false)⟩,
 ⟨some 9,.faddr 3 (.t 0),some (7,false)⟩,
 ⟨some 10,.load false 1 (.t 9),some (7,false)⟩,
 ⟨some 11,.call 58 [.t 8,.t 10],some (7,false)⟩,
 ⟨some 12,.un .not (.t 11),some (7,false)⟩,
 oO 13 (.pick (.t 7) (.c (.bool true)) (.t 12)),
 oT 1 13])
 .ret),
 [.tmp 1]⟩
def xNo : ACode :=
 oR ([oB 11 .lss 10 9])
 (.seq (.cond (.t 11)
 .skip
 (.exit 0))
 (.seq (.block 1 (oR ([oO 12 (.iaddr 1 (.t 8) (.t 10)),
 oH 13 1 12,
 oT 7 13])
 (.seq (oR ([oT 14 7,
 oT 15 5,
 oB 16 .leq 14 15,
 oT 17 16,
 ⟨some 18,.mov (.t 7),some (17,false)⟩,
 ⟨some 19,.faddr 1 (.t 2),some (17,false)⟩,
 ⟨some 20,.load false 1 (.t 19),some (17,false)⟩,
 ⟨some 21,.bin .geq (.t 18) (.t 20),some (17,false)⟩,
 oO 22 (.pick (.t 17) (.c (.bool true)) (.t 21))])
 (.cond (.t 22)
 (oR ([oM 4 (.c (.bool false))])
 .ret)
 .skip))
 (.region [oT 23 7,
 oT 5 23]))))
 (.region [oA 24 .add 10 (.c (oI 1)),
 oT 10 24])))
def xZI : ACode := xNo
def xSl : List Nat := [0,1,3,6,7,11,12,13,14,15,16,17,18,19,20,21,22,23,24]
abbrev xON (s2 s4 s5 s8 s9 s10 : AV) : List AV := [oE,oE,s2,oE,s4,s5,oE,oE,s8,s9,s10,oE,oE,oE,oE,oE,oE,oE,oE,oE,oE,oE,oE,oE,oE]
theorem xNp (a b c d e f g h i j k l m n o p q r s t u v w x y : AV) : xA6 xSl [a,b,c,d,e,f,g,h,i,j,k,l,m,n,o,p,q,r,s,t,u,v,w,x,y] = xON c e f i j k := by kernel_rfl
theorem xUK {prog : Nat → Option AFunc} (s2 s4 s5 s8 s9 s10 : AV) (H : Heap) : (lim prog).loop xSl xZI ⟨xON s2 s4 s5 s8 s9 s10,H⟩ = xBv (lim prog) xSl xZI (run (lim prog) xNo ⟨xON s2 s4 s5 s8 s9 s10,H⟩) := xAN _ _ _ _ (by kernel_rfl)
def a58 : AFunc := ⟨25,
 oR ([oX 2 (.t 0),
 oM 4 (.c (.bool false))])
 (oR ([oM 5 (.c (.int .i64 (-1)))])
 (.seq (oR ([oT 8 1,
 oN 9 8,
 oM 10 (.c (oI 0))])
 (.block 0 (.loop xSl xZI)))
 (oR ([oM 4 (.c (.bool true))])
 .ret))),
 [.tmp 4]⟩
def a59 : AFunc := ⟨28,
 oR ([oX 2 (.t 0),
 oM 4 (.c (oI 0))])
 (.seq (.block 0 (.seq (oR ([oT 6 1,
 oA 7 .lss 6 (.c (oI 0)),
 oT 8 7,
 ⟨some 9,.mov (.t 1),some (8,false)⟩,
 ⟨some 10,.bin .gtr (.t 9) (.c (oI 6)),some (8,false)⟩,
 oO 11 (.pick (.t 8) (.c (.bool true)) (.t 10)),
 oT 5 11])
 (.cond (.t 5)
 .skip
 (.draw 6 [oF 12 0 2,
 oH 13 1 12,
 oF 14 1 2,
 oH 15 1 14,
 oB 16 .or 13 15,
 oO 17 (.conv .i64 (.t 16)),
 oT 18 1,
 oO 19 (.bin .shl (.c (oI 1)) (.t 18)),
 oB 20 .geq 17 19,
 oT 5 20])))
 (.cond (.t 5)
 (oR ([oM 4 (.c (oI 7))])
 .ret)
 (oR ([oF 22 0 2,
 oH 23 1 22,
 oF 24 1 2,
 oH 25 1 24,
 oB 26 .and 23 25,
 oA 27 .neq 26 (.c (.int .u8 0)),
 oT 21 27])
 (.cond (.t 21)
 (oR ([oM 4 (.c (oI 2))])
 .ret)
 .skip)))))
 (oR ([oM 4 (.c (oI 0))])
 .ret)),
 [.tmp 4]⟩
def a60 : AFunc := ⟨13,
 oR ([oX 2 (.t 0),
 oM 4 (.c (oI 0))])
 (.seq (.block 0 (oR ([oT 6 1,
 oN 7 6,
 oA 8 .gtr 7 (.c (oI 64)),
 oT 5 8])
 (.cond (.t 5)
 (oR ([oM 4 (.c (oI 4))])
 .ret)
 (oR ([oT 10 1,
 oO 11 (.mkfunc 75 [.t 2]),
 oO 12 (.icall (.c (.func 74 [])) [.t 10,.t 11]),
 oT 9 12])
 (.cond (.t 9)
 (oR ([oM 4 (.c (oI 1))])
 .ret)
 .skip)))))
 (oR ([oM 4 (.c (oI 0))])
 .ret)),
 [.tmp 4]⟩
def yBn : ACode :=
 .region [oX 7 (.c (.agg [oI 0,oI 0,.int .u8 0,.int .u8 0])),
 ⟨none,.store 4 (.t 7) (.t 11),none⟩]
def yCm : ACode :=
 .block 1 (oR ([oH 12 1 4,
 oF 13 0 7,
 oH 14 1 13,
 oO 15 (.call 67 [.t 12,.t 14])])
 (.cond (.t 15)
 (.region [oH 16 1 6,
 oF 17 1 7,
 oH 18 1 17,
 oO 19 (.ocall 68 [.t 16,.t 18]),
 ⟨none,.store 1 (.t 6) (.t 19),none⟩])
 .skip))
def yCn : ACode := yBn
def yDb : ACode := yCm
def a61 : AFunc := ⟨21,
 oR ([oX 3 (.t 0),
 oX 4 (.t 1),
 oX 6 (.c (oS))])
 (.seq (oR ([oG 8 5 3,
 oT 9 2,
 oO 10 (.icall (.c (.func 76 [])) [.t 8,.t 9])])
 (.block 0 (.range (.t 10) [11] yCn yDb)))
 (oR ([oH 20 1 6,
 ⟨none,.store 1 (.t 6) (.t 20),none⟩])
 .ret)),
 [.cell 6 false 1]⟩
def a64 : AFunc := ⟨32,
 oR ([oX 2 (.t 0),
 oM 4 (.c (oI 0))])
 (.seq (oR ([oT 6 1,
 oA 7 .lss 6 (.c (oI 0)),
 oT 8 7,
 ⟨some 9,.mov (.t 1),some (8,false)⟩,
 ⟨some 10,.bin .gtr (.t 9) (.c (oI 6)),some (8,false)⟩,
 oO 11 (.pick (.t 8) (.c (.bool true)) (.t 10))])
 (.cond (.t 11)
 (oR ([oM 4 (.c (oI 7))])
 .ret)
 .skip))
 (oR ([oT 12 1,
 oO 13 (.call 78 [.t 12]),
 oT 5 13])
 (.seq (oR ([oF 14 0 2,
 oH 15 1 14,
 oO 16 (.conv .i64 (.t 15)),
 oT 17 5,
 oB 18 .geq 16 17,
 oT 19 18,
 ⟨some 20,.faddr 1 (.t 2),some (19,false)⟩,
 ⟨some 21,.load false 1 (.t 20),some (19,false)⟩,
 ⟨some 22,.conv .i64 (.t 21),some (19,false)⟩,
 ⟨some 23,.mov (.t 5),some (19,false)⟩,
 ⟨some 24,.bin .geq (.t 22) (.t 23),some (19,false)⟩,
 oO 25 (.pick (.t 19) (.c (.bool true)) (.t 24))])
 (.cond (.t 25)
 (oR ([oM 4 (.c (oI 7))])
 .ret)
 .skip))
 (.seq (oR ([oF 26 0 2,
 oH 27 1 26,
 oF 28 1 2,
 oH 29 1 28,
 oB 30 .and 27 29,
 oA 31 .neq 30 (.c (.int .u8 0))])
 (.cond (.t 31)
 (oR ([oM 4 (.c (oI 2))])
 .ret)
 .skip))
 (oR ([oM 4 (.c (oI 0))])
 .ret))))),
 [.tmp 4]⟩
def xSm : ACode :=
 .seq (oR ([oT 6 5,
 oT 7 0,
 oN 8 7,
 oB 9 .lss 6 8])
 (.cond (.t 9)
 .skip
 (.exit 0)))
 (.seq (.block 1 (oR ([oT 12 0,
 oT 13 5,
 oO 14 (.iaddr 1 (.t 12) (.t 13)),
 oH 15 1 14,
 oT 16 1,
 oB 17 .eql 15 16])
 (.cond (.t 17)
 (oR ([oM 4 (.c (.bool true))])
 .ret)
 .skip)))
 (.region [oT 10 5,
 oA 11 .add 10 (.c (oI 1)),
 oT 5 11]))
def xXs : ACode := xSm
def xOO : List Nat := [2,3,6,7,8,9,10,11,12,13,14,15,16,17]
abbrev xNq (s0 s1 s4 s5 : AV) : List AV := [s0,s1,oE,oE,s4,s5,oE,oE,oE,oE,oE,oE,oE,oE,oE,oE,oE,oE]
theorem xSn (a b c d e f g h i j k l m n o p q r : AV) : xA6 xOO [a,b,c,d,e,f,g,h,i,j,k,l,m,n,o,p,q,r] = xNq a b e f := by kernel_rfl
theorem xXt {prog : Nat → Option AFunc} (s0 s1 s4 s5 : AV) (H : Heap) : (lim prog).loop xOO xXs ⟨xNq s0 s1 s4 s5,H⟩ = xBv (lim prog) xOO xXs (run (lim prog) xSm ⟨xNq s0 s1 s4 s5,H⟩) := xAN _ _ _ _ (by kernel_rfl)
def a65 : AFunc := ⟨18,
 oR ([oM 4 (.c (.bool false))])
 (.seq (oR ([oM 5 (.c (oI 0))])
 (.block 0 (.loop xOO xXs)))
 (oR ([oM 4 (.c (.bool false))])
 .ret)),
 [.tmp 4]⟩
def xKi : ACode :=
 oR ([oB 8 .lss 7 6])
 (.seq (.cond (.t 8)
 .skip
 (.exit 0))
 (.seq (.block 1 (oR ([oO 9 (.iaddr 4 (.t 5) (.t 7)),
 oG 10 4 9,
 oX 4 (.c (.agg [oI 0,oI 0,.int .u8 0,.int .u8 0])),
 ⟨none,.store 4 (.t 4) (.t 10),none⟩])
 (oR ([oH 11 1 1,
 oF 12 0 4,
 oH 13 1 12,
 oO 14 (.call 67 [.t 11,.t 13]),
 oT 15 14,
 ⟨some 16,.load false 1 (.t 1),some (15,true)⟩,
 ⟨some 17,.faddr 1 (.t 4),some (15,true)⟩,
 ⟨some 18,.load false 1 (.t 17),some (15,true)⟩,
 ⟨some 19,.call 67 [.t 16,.t 18],some (15,true)⟩,
 ⟨some 20,.un .not (.t 19),some (15,true)⟩,
 oO 21 (.pick (.t 15) (.t 20) (.c (.bool false)))])
 (.cond (.t 21)
 (.region [oH 22 1 1,
 oF 23 1 4,
 oH 24 1 23,
 oO 25 (.ocall 68 [.t 22,.t 24]),
 ⟨none,.store 1 (.t 1) (.t 25),none⟩,
 oM 2 (.c (.bool true))])
 .skip))))
 (.region [oA 26 .add 7 (.c (oI 1)),
 oT 7 26])))
def xTx : ACode := xKi
def xL8 : List Nat := [0,3,4,8,9,10,11,12,13,14,15,16,17,18,19,20,21,22,23,24,25,26,27]
abbrev xKj (s1 s2 s5 s6 s7 : AV) : List AV := [oE,s1,s2,oE,oE,s5,s6,s7,oE,oE,oE,oE,oE,oE,oE,oE,oE,oE,oE,oE,oE,oE,oE,oE,oE,oE,oE,oE]
theorem xL9 (a b c d e f g h i j k l m n o p q r s t u v w x y z A B : AV) : xA6 xL8 [a,b,c,d,e,f,g,h,i,j,k,l,m,n,o,p,q,r,s,t,u,v,w,x,y,z,A,B] = xKj b c f g h := by kernel_rfl
theorem xNr {prog : Nat → Option AFunc} (s1 s2 s5 s6 s7 : AV) (H : Heap) : (lim prog).loop xL8 xTx ⟨xKj s1 s2 s5 s6 s7,H⟩ = xBv (lim prog) xL8 xTx (run (lim prog) xKi ⟨xKj s1 s2 s5 s6 s7,H⟩) := xAN _ _ _ _ (by kernel_rfl)
def a66 : AFunc := ⟨28,
 oR ([oM 2 (.c (.bool false))])
 (.seq (oR ([oH 5 1 0,
 oN 6 5,
 oM 7 (.c (oI 0))])
 (.block 0 (.loop xL8 xTx)))
 (oR ([oT 27 2,
 oT 2 27])
 .ret)),
 [.tmp 2]⟩
def a67 : AFunc := ⟨9,
 oR ([oM 4 (.c (.bool false))])
 (oR ([oT 5 0,
 oT 6 1,
 oO 7 (.call 79 [.t 6]),
 oO 8 (.call 53 [.t 5,.t 7]),
 oT 4 8])
 .ret),
 [.tmp 4]⟩
def a68 : AFunc := ⟨9,
 oR ([oM 4 (.c (oS))])
 (oR ([oT 5 0,
 oT 6 1,
 oO 7 (.call 79 [.t 6]),
 oO 8 (.ocall 77 [.t 5,.t 7]),
 oT 4 8])
 .ret),
 [.tmp 4]⟩
def a69 : AFunc := ⟨4,
 oR ([oX 1 (.t 0),
 oM 2 (.c (.nilf))])
 (oR ([oO 3 (.mkfunc 80 [.t 1]),
 oT 2 3])
 .ret),
 [.tmp 2]⟩
def xSo : ACode :=
 oR ([oB 17 .lss 16 15])
 (.seq (.cond (.t 17)
 .skip
 (.exit 0))
 (.seq (.block 1 (oR ([oT 18 16,
 oT 9 18])
 (.region [oT 19 8,
 oT 20 2,
 oT 21 7,
 oT 22 0,
 oT 23 9,
 oO 24 (.icall (.t 21) [.t 22,.t 23]),
 oT 25 7,
 oT 26 1,
 oT 27 9,
 oO 28 (.icall (.t 25) [.t 26,.t 27]),
 oO 29 (.icall (.t 20) [.t 24,.t 28]),
 oO 30 (.bslice true [.int .u64 0] 1 1 [(0,.t 29)]),
 oO 31 (.append false 1 8 (.t 19) (.t 30)),
 oT 8 31])))
 (.region [oA 32 .add 16 (.c (oI 1)),
 oT 16 32])))
def xZJ : ACode := xSo
def xSp : List Nat := [3,4,5,6,9,10,11,12,13,14,17,18,19,20,21,22,23,24,25,26,27,28,29,30,31,32,33,34,35,36,37,38,39,40,41,42,43,44,45,46,47,48,49,50,51]
abbrev xSq (s0 s1 s2 s7 s8 s15 s16 : AV) : List AV := [s0,s1,s2,oE,oE,oE,oE,s7,s8,oE,oE,oE,oE,oE,oE,s15,s16,oE,oE,oE,oE,oE,oE,oE,oE,oE,oE,oE,oE,oE,oE,oE,oE,oE,oE,oE,oE,oE,oE,oE,oE,oE,oE,oE,oE,oE,oE,oE,oE,oE,oE,oE]
theorem xSr (a b c d e f g h i j k l m n o p q r s t u v w x y z A B C D E F G H I J K L M N O P Q R S T U V W X Y Z : AV) : xA6 xSp [a,b,c,d,e,f,g,h,i,j,k,l,m,n,o,p,q,r,s,t,u,v,w,x,y,z,A,B,C,D,E,F,G,H,I,J,K,L,M,N,O,P,Q,R,S,T,U,V,W,X,Y,Z] = xSq a b c h i p q := by kernel_rfl
theorem xXu {prog : Nat → Option AFunc} (s0 s1 s2 s7 s8 s15 s16 : AV) (H : Heap) : (lim prog).loop xSp xZJ ⟨xSq s0 s1 s2 s7 s8 s15 s16,H⟩ = xBv (lim prog) xSp xZJ (run (lim prog) xSo ⟨xSq s0 s1 s2 s7 s8 s15 s16,H⟩) := xAN _ _ _ _ (by kernel_rfl)
def xOP : ACode :=
 .seq (oR ([oT 33 8,
 oN 34 33,
 oA 35 .gtr 34 (.c (oI 0)),
 oT 36 35,
 ⟨some 37,.mov (.t 8),some (36,true)⟩,
 ⟨some 38,.mov (.t 8),some (36,true)⟩,
 ⟨some 39,.len (.t 38),some (36,true)⟩,
 ⟨some 40,.bin .sub (.t 39) (.c (oI 1)),some (36,true)⟩,
 ⟨some 41,.iaddr 1 (.t 37) (.t 40),some (36,true)⟩,
 ⟨some 42,.load false 1 (.t 41),some (36,true)⟩,
 ⟨some 43,.bin .eql (.t 42) (.c (.int .u64 0)),some (36,true)⟩,
 oO 44 (.pick (.t 36) (.t 43) (.c (.bool false)))])
 (.cond (.t 44)
 .skip
 (.exit 2)))
 (.block 3 (.region [oT 45 8,
 oT 46 8,
 oN 47 46,
 oA 48 .sub 47 (.c (oI 1)),
 oO 49 (.slice 1 (.t 45) none (some (.t 48)) none),
 oT 8 49]))
def xXv : ACode := xOP
def xOQ : List Nat := [0,1,2,3,4,5,6,7,9,10,11,12,13,14,15,16,17,18,19,20,21,22,23,24,25,26,27,28,29,30,31,32,33,34,35,36,37,38,39,40,41,42,43,44,45,46,47,48,49,50,51]
abbrev xNs (s8 : AV) : List AV := [oE,oE,oE,oE,oE,oE,oE,oE,s8,oE,oE,oE,oE,oE,oE,oE,oE,oE,oE,oE,oE,oE,oE,oE,oE,oE,oE,oE,oE,oE,oE,oE,oE,oE,oE,oE,oE,oE,oE,oE,oE,oE,oE,oE,oE,oE,oE,oE,oE,oE,oE,oE]
theorem xOR (a b c d e f g h i j k l m n o p q r s t u v w x y z A B C D E F G H I J K L M N O P Q R S T U V W X Y Z : AV) : xA6 xOQ [a,b,c,d,e,f,g,h,i,j,k,l,m,n,o,p,q,r,s,t,u,v,w,x,y,z,A,B,C,D,E,F,G,H,I,J,K,L,M,N,O,P,Q,R,S,T,U,V,W,X,Y,Z] = xNs i := by kernel_rfl
theorem xXw {prog : Nat → Option AFunc} (s8 : AV) (H : Heap) : (lim prog).loop xOQ xXv ⟨xNs s8,H⟩ = xBv (lim prog) xOQ xXv (run (lim prog) xOP ⟨xNs s8,H⟩) := xAN _ _ _ _ (by kernel_rfl)
def a70 : AFunc := ⟨52,
 oR ([oM 6 (.c (oS))])
 (oR ([oM 7 (.c (.func 82 []))])
 (oR ([oM 8 (.c (oS))])
 (.seq (oR ([oT 10 0,
 oN 11 10,
 oT 12 1,
 oN 13 12,
 oO 14 (.maxi (.t 11) (.t 13)),
 oO 15 (.mini (.t 14) (.c (oI 64))),
 oM 16 (.c (oI 0))])
 (.block 0 (.loop xSp xZJ)))
 (.seq (.block 2 (.loop xOQ xXv))
 (oR ([oT 50 8,
 oO 51 (.icall (.c (.func 83 [])) [.t 50]),
 oT 6 51])
 .ret))))),
 [.tmp 6]⟩
def a71 : AFunc := ⟨8,
 oR ([oM 4 (.c (.int .u64 0))])
 (oR ([oT 5 0,
 oT 6 1,
 oB 7 .and 5 6,
 oT 4 7])
 .ret),
 [.tmp 4]⟩
def a72 : AFunc := ⟨17,
 oR ([oM 4 (.c (.bool false))])
 (oR ([oT 5 0,
 oO 6 (.call 84 [.t 5]),
 oT 7 6,
 ⟨some 8,.mov (.t 1),some (7,true)⟩,
 ⟨some 9,.call 84 [.t 8],some (7,true)⟩,
 ⟨some 10,.un .not (.t 9),some (7,true)⟩,
 oO 11 (.pick (.t 7) (.t 10) (.c (.bool false))),
 oT 12 11,
 ⟨some 13,.mov (.t 0),some (12,false)⟩,
 ⟨some 14,.mov (.t 1),some (12,false)⟩,
 ⟨some 15,.bin .lss (.t 13) (.t 14),some (12,false)⟩,
 oO 16 (.pick (.t 12) (.c (.bool true)) (.t 15)),
 oT 4 16])
 .ret),
 [.tmp 4]⟩
def a73 : AFunc := ⟨6,
 oR ([oM 2 (.c (.bool false))])
 (oR ([oT 3 0,
 oT 4 0,
 oB 5 .neq 3 4,
 oT 2 5])
 .ret),
 [.tmp 2]⟩
def a74 : AFunc := ⟨9,
 oR ([oM 4 (.c (.bool false))])
 (oR ([oT 5 0,
 oT 6 1,
 oO 7 (.icall (.c (.func 85 [])) [.t 5,.t 6]),
 oA 8 .geq 7 (.c (oI 0)),
 oT 4 8])
 .ret),
 [.tmp 4]⟩
def a75 : AFunc := ⟨10,
 oR ([oM 3 (.c (.bool false))])
 (oR ([oT 4 0,
 oO 5 (.conv .i64 (.t 4)),
 oF 6 0 1,
 oH 7 1 6,
 oO 8 (.bin .shl (.c (oI 1)) (.t 7)),
 oB 9 .geq 5 8,
 oT 3 9])
 .ret),
 [.tmp 3]⟩
def a76 : AFunc := ⟨6,
 oR ([oX 2 (.t 0),
 oX 3 (.t 1),
 oM 4 (.c (.nilf))])
 (oR ([oO 5 (.mkfunc 86 [.t 2,.t 3]),
 oT 4 5])
 .ret),
 [.tmp 4]⟩
def a77 : AFunc := ⟨8,
 oR ([oM 4 (.c (oS))])
 (oR ([oT 5 0,
 oT 6 1,
 oO 7 (.icall (.c (.func 70 [])) [.t 5,.t 6,(.c (.func 88 []))]),
 oT 4 7])
 .ret),
 [.tmp 4]⟩
def a78 : AFunc := ⟨6,
 oR ([oM 2 (.c (oI 0))])
 (oR ([oT 3 0,
 oO 4 (.conv .u64 (.t 3)),
 oO 5 (.bin .shl (.c (oI 1)) (.t 4)),
 oT 2 5])
 .ret),
 [.tmp 2]⟩
def a79 : AFunc := ⟨22,
 oR ([oM 2 (.c (oS))])
 (.seq (oR ([oT 4 0,
 oA 5 .lss 4 (.c (oI 0)),
 oT 6 5,
 ⟨some 7,.mov (.t 0),some (6,false)⟩,
 ⟨some 8,.bin .gtr (.t 7) (.c (oI 4095)),some (6,false)⟩,
 oO 9 (.pick (.t 6) (.c (.bool true)) (.t 8))])
 (.cond (.t 9)
 (oR ([oM 2 (.c (oS))])
 .ret)
 .skip))
 (oR ([oT 10 0,
 oA 11 .quo 10 (.c (oI 64)),
 oA 12 .add 11 (.c (oI 1)),
 oO 13 (.mkslice false [.int .u64 0] 8 (.t 12) (.t 12)),
 oT 3 13])
 (oR ([oT 14 3,
 oT 15 0,
 oA 16 .quo 15 (.c (oI 64)),
 oT 17 0,
 oA 18 .rem 17 (.c (oI 64)),
 oO 19 (.bin .shl (.c (.int .u64 1)) (.t 18)),
 oO 20 (.iaddr 1 (.t 14) (.t 16)),
 ⟨none,.store 1 (.t 20) (.t 19),none⟩])
 (oR ([oT 21 3,
 oT 2 21])
 .ret)))),
 [.tmp 2]⟩
def xUL : ACode :=
 .seq (oR ([oT 16 4,
 oA 17 .neq 16 (.c (.int .u64 0))])
 (.cond (.t 17)
 .skip
 (.exit 2)))
 (.block 3 (.seq (oR ([oT 18 0,
 oT 19 3,
 oO 20 (.bin .mul (.c (oI 64)) (.t 19)),
 oT 21 4,
 oO 22 (.call 81 [.t 21]),
 oB 23 .add 20 22,
 oO 24 (.icall (.t 18) [.t 23]),
 oO 25 (.un .not (.t 24))])
 (.cond (.t 25)
 .ret
 .skip))
 (.region [oT 26 4,
 oT 27 4,
 oA 28 .sub 27 (.c (.int .u64 1)),
 oB 29 .and 26 28,
 oT 4 29])))
def xZK : ACode := xUL
def xSs : List Nat := [1,2,5,6,7,8,12,13,14,15,16,17,18,19,20,21,22,23,24,25,26,27,28,29,30]
abbrev xSt (s0 s3 s4 s9 s10 s11 : AV) : List AV := [s0,oE,oE,s3,s4,oE,oE,oE,oE,s9,s10,s11,oE,oE,oE,oE,oE,oE,oE,oE,oE,oE,oE,oE,oE,oE,oE,oE,oE,oE,oE]
theorem xXx (a b c d e f g h i j k l m n o p q r s t u v w x y z A B C D E : AV) : xA6 xSs [a,b,c,d,e,f,g,h,i,j,k,l,m,n,o,p,q,r,s,t,u,v,w,x,y,z,A,B,C,D,E] = xSt a d e j k l := by kernel_rfl
theorem yAB {prog : Nat → Option AFunc} (s0 s3 s4 s9 s10 s11 : AV) (H : Heap) : (lim prog).loop xSs xZK ⟨xSt s0 s3 s4 s9 s10 s11,H⟩ = xBv (lim prog) xSs xZK (run (lim prog) xUL ⟨xSt s0 s3 s4 s9 s10 s11,H⟩) := xAN _ _ _ _ (by kernel_rfl)
def xUM : ACode :=
 oR ([oB 12 .lss 11 10])
 (.seq (.cond (.t 12)
 .skip
 (.exit 0))
 (.seq (.block 1 (oR ([oT 13 11,
 oO 14 (.iaddr 1 (.t 9) (.t 11)),
 oH 15 1 14,
 oT 3 13,
 oT 4 15])
 (.block 2 (.loop xSs xZK))))
 (.region [oA 30 .add 11 (.c (oI 1)),
 oT 11 30])))
def xZL : ACode := xUM
def xSu : List Nat := [1,2,3,4,5,6,7,8,12,13,14,15,16,17,18,19,20,21,22,23,24,25,26,27,28,29,30]
abbrev xSv (s0 s9 s10 s11 : AV) : List AV := [s0,oE,oE,oE,oE,oE,oE,oE,oE,s9,s10,s11,oE,oE,oE,oE,oE,oE,oE,oE,oE,oE,oE,oE,oE,oE,oE,oE,oE,oE,oE]
theorem xUN (a b c d e f g h i j k l m n o p q r s t u v w x y z A B C D E : AV) : xA6 xSu [a,b,c,d,e,f,g,h,i,j,k,l,m,n,o,p,q,r,s,t,u,v,w,x,y,z,A,B,C,D,E] = xSv a j k l := by kernel_rfl
theorem yAC {prog : Nat → Option AFunc} (s0 s9 s10 s11 : AV) (H : Heap) : (lim prog).loop xSu xZL ⟨xSv s0 s9 s10 s11,H⟩ = xBv (lim prog) xSu xZL (run (lim prog) xUM ⟨xSv s0 s9 s10 s11,H⟩) := xAN _ _ _ _ (by kernel_rfl)
def a80 : AFunc := ⟨31,
 oR ([oH 5 1 1,
 oH 6 1 1,
 oN 7 6,
 oO 8 (.mini (.t 7) (.c (oI 64))),
 oO 9 (.slice 1 (.t 5) none (some (.t 8)) none),
 oN 10 9,
 oM 11 (.c (oI 0))])
 (.block 0 (.loop xSu xZL)),
 []⟩
def a81 : AFunc := ⟨14,
 oR ([oM 2 (.c (oI 0))])
 (.seq (oR ([oT 3 0,
 oA 4 .eql 3 (.c (.int .u64 0))])
 (.cond (.t 4)
 (oR ([oM 2 (.c (oI 64))])
 .ret)
 .skip))
 (oR ([oT 5 0,
 oT 6 0,
 oO 7 (.un .neg (.t 6)),
 oB 8 .and 5 7,
 oA 9 .mul 8 (.c (.int .u64 285870213051353865)),
 oA 10 .shr 9 (.c (.int .u64 58)),
 oO 11 (.garr 0 1 64 (.t 10)),
 oH 12 1 11,
 oO 13 (.conv .i64 (.t 12)),
 oT 2 13])
 .ret)),
 [.tmp 2]⟩
def a82 : AFunc := ⟨13,
 oR ([oM 4 (.c (.int .u64 0))])
 (.seq (oR ([oT 5 1,
 oT 6 0,
 oN 7 6,
 oB 8 .lss 5 7])
 (.cond (.t 8)
 (oR ([oT 9 0,
 oT 10 1,
 oO 11 (.iaddr 1 (.t 9) (.t 10)),
 oH 12 1 11,
 oT 4 12])
 .ret)
 .skip))
 (oR ([oM 4 (.c (.int .u64 0))])
 .ret)),
 [.tmp 4]⟩
def a83 : AFunc := ⟨9,
 oR ([oM 2 (.c (oS))])
 (oR ([oT 3 0,
 oT 4 0,
 oN 5 4,
 oT 6 0,
 oN 7 6,
 oO 8 (.slice 1 (.t 3) none (some (.t 5)) (some (.t 7))),
 oT 2 8])
 .ret),
 [.tmp 2]⟩
def a84 : AFunc := ⟨6,
 oR ([oM 2 (.c (.bool false))])
 (oR ([oT 3 0,
 oT 4 0,
 oB 5 .neq 3 4,
 oT 2 5])
 .ret),
 [.tmp 2]⟩
def yCo : ACode :=
 oR ([oB 9 .lss 8 7])
 (.seq (.cond (.t 9)
 .skip
 (.exit 0))
 (.seq (.block 1 (oR ([oT 10 8,
 oT 5 10])
 (oR ([oT 11 1,
 oT 12 0,
 oT 13 5,
 oO 14 (.iaddr 1 (.t 12) (.t 13)),
 oH 15 1 14,
 oO 16 (.icall (.t 11) [.t 15])])
 (.cond (.t 16)
 (oR ([oT 17 5,
 oT 4 17])
 .ret)
 .skip))))
 (.region [oA 18 .add 8 (.c (oI 1)),
 oT 8 18])))
def yDc : ACode := yCo
def yCp : List Nat := [2,3,5,6,9,10,11,12,13,14,15,16,17,18]
def a85 : AFunc := ⟨19,
 oR ([oM 4 (.c (oI 0))])
 (.seq (oR ([oT 6 0,
 oN 7 6,
 oM 8 (.c (oI 0))])
 (.block 0 (.loop yCp yDc)))
 (oR ([oM 4 (.c (.int .i64 (-1)))])
 .ret)),
 [.tmp 4]⟩
def yCq : ACode :=
 oR ([oB 10 .lss 9 8])
 (.seq (.cond (.t 10)
 .skip
 (.exit 0))
 (.seq (.block 1 (oR ([oO 11 (.iaddr 4 (.t 7) (.t 9)),
 oG 12 4 11,
 oX 5 (.c (.agg [oI 0,oI 0,.int .u8 0,.int .u8 0])),
 ⟨none,.store 4 (.t 5) (.t 12),none⟩])
 (oR ([oF 13 2 5,
 oH 14 1 13,
 oF 15 3 5,
 oH 16 1 15,
 oO 17 (.build [.int .u8 0,.int .u8 0] [(0,1,.t 14),(1,1,.t 16)]),
 oH 18 1 2,
 oO 19 (.call 87 [.t 17,.t 18]),
 oT 20 19,
 ⟨some 21,.mov (.t 0),some (20,true)⟩,
 ⟨some 22,.load true 4 (.t 5),some (20,true)⟩,
 ⟨some 23,.icall (.t 21) [.t 22],some (20,true)⟩,
 ⟨some 24,.un .not (.t 23),some (20,true)⟩,
 oO 25 (.pick (.t 20) (.t 24) (.c (.bool false)))])
 (.cond (.t 25)
 .ret
 .skip))))
 (.region [oA 26 .add 9 (.c (oI 1)),
 oT 9 26])))
def yDd : ACode := yCq
def yCr : List Nat := [1,3,4,5,6,10,11,12,13,14,15,16,17,18,19,20,21,22,23,24,25,26]
def a86 : AFunc := ⟨27,
 oR ([oF 6 4 1,
 oH 7 1 6,
 oN 8 7,
 oM 9 (.c (oI 0))])
 (.block 0 (.loop yCr yDd)),
 []⟩
def a87 : AFunc := ⟨19,
 oR ([oX 2 (.t 0),
 oM 4 (.c (.bool false))])
 (oR ([oT 5 1,
 oF 6 0 2,
 oH 7 1 6,
 oB 8 .and 5 7,
 oF 9 0 2,
 oH 10 1 9,
 oB 11 .eql 8 10,
 oT 12 11,
 ⟨some 13,.mov (.t 1),some (12,true)⟩,
 ⟨some 14,.faddr 1 (.t 2),some (12,true)⟩,
 ⟨some 15,.load false 1 (.t 14),some (12,true)⟩,
 ⟨some 16,.bin .and (.t 13) (.t 15),some (12,true)⟩,
 ⟨some 17,.bin .eql (.t 16) (.c (.int .u8 0)),some (12,true)⟩,
 oO 18 (.pick (.t 12) (.t 17) (.c (.bool false))),
 oT 4 18])
 .ret),
 [.tmp 4]⟩
def a88 : AFunc := ⟨8,
 oR ([oM 4 (.c (.int .u64 0))])
 (oR ([oT 5 0,
 oT 6 1,
 oB 7 .or 5 6,
 oT 4 7])
 .ret),
 [.tmp 4]⟩
def xAS : Nat → Option AFunc
 | 3 => some a3
 | 6 => some a6
 | 7 => some a7
 | 8 => some a8
 | 9 => some a9
 | 10 => some a10
 | 11 => some a11
 | 12 => some a12
 | 13 => some a13
 | 14 => some a14
 | 15 => some a15
 | 16 => some a16
 | 17 => some a17
 | 18 => some a18
 | 19 => some a19
 | 20 => some a20
 | 21 => some a21
 | 22 => some a22
 | 23 => some a23
 | 24 => some a24
 | 25 => some a25
 | 26 => some a26
 | 27 => some a27
 | 30 => some a30
 | 31 => some a31
 | 32 => some a32
 | 33 => some a33
 | 34 => some a34
 | 35 => some a35
 | 36 => some a36
 | 37 => some a37
 | 38 => some a38
 | 39 => some a39
 | 40 => some a40
 | 41 => some a41
 | 42 => some a42
 | 43 => some a43
 | 44 => some a44
 | 45 => some a45
 | 46 => some a46
 | 47 => some a47
 | 48 => some a48
 | 49 => some a49
 | 50 => some a50
 | 51 => some a51
 | 52 => some a52
 | 53 => some a53
 | 54 => some a54
 | 55 => some a55
 | 56 => some a56
 | 57 => some a57
 | 58 => some a58
 | 59 => some a59
 | 60 => some a60
 | 61 => some a61
 | 64 => some a64
 | 65 => some a65
 | 66 => some a66
 | 67 => some a67
 | 68 => some a68
 | 69 => some a69
 | 70 => some a70
 | 71 => some a71
 | 72 => some a72
 | 73 => some a73
 | 74 => some a74
 | 75 => some a75
 | 76 => some a76
 | 77 => some a77
 | 78 => some a78
 | 79 => some a79
 | 80 => some a80
 | 81 => some a81
 | 82 => some a82
 | 83 => some a83
 | 84 => some a84
 | 85 => some a85
 | 86 => some a86
 | 87 => some a87
 | 88 => some a88
 | _ => none
theorem a3p (args : List AV) : (lim xAS).pcall 3 args = xBg (lim xAS) a3 args := xAP rfl args
theorem a6p (args : List AV) : (lim xAS).pcall 6 args = xBg (lim xAS) a6 args := xAP rfl args
theorem a8p (args : List AV) : (lim xAS).pcall 8 args = xBg (lim xAS) a8 args := xAP rfl args
theorem a9p (args : List AV) : (lim xAS).pcall 9 args = xBg (lim xAS) a9 args := xAP rfl args
theorem yEh (args : List AV) : (lim xAS).pcall 10 args = xBg (lim xAS) a10 args := xAP rfl args
theorem yDM (args : List AV) : (lim xAS).pcall 11 args = xBg (lim xAS) a11 args := xAP rfl args
theorem yDN (args : List AV) : (lim xAS).pcall 12 args = xBg (lim xAS) a12 args := xAP rfl args
theorem yB0 (args : List AV) : (lim xAS).pcall 13 args = xBg (lim xAS) a13 args := xAP rfl args
theorem yEi (args : List AV) : (lim xAS).pcall 14 args = xBg (lim xAS) a14 args := xAP rfl args
theorem yEj (caps args : List AV) (H : Heap) : (lim xAS).icall (.func 14 caps) args H = xBG (lim xAS) a14 (args ++ caps) H := xAU rfl caps args H
theorem yCs (args : List AV) : (lim xAS).pcall 15 args = xBg (lim xAS) a15 args := xAP rfl args
theorem yCt (caps args : List AV) (H : Heap) : (lim xAS).icall (.func 15 caps) args H = xBG (lim xAS) a15 (args ++ caps) H := xAU rfl caps args H
theorem yDe (args : List AV) : (lim xAS).pcall 16 args = xBg (lim xAS) a16 args := xAP rfl args
theorem yDf (caps args : List AV) (H : Heap) : (lim xAS).icall (.func 16 caps) args H = xBG (lim xAS) a16 (args ++ caps) H := xAU rfl caps args H
theorem yDO (caps args : List AV) (H : Heap) : (lim xAS).icall (.func 17 caps) args H = xBG (lim xAS) a17 (args ++ caps) H := xAU rfl caps args H
theorem yCu (args : List AV) : (lim xAS).pcall 18 args = xBg (lim xAS) a18 args := xAP rfl args
theorem yCv (caps args : List AV) (H : Heap) : (lim xAS).icall (.func 18 caps) args H = xBG (lim xAS) a18 (args ++ caps) H := xAU rfl caps args H
theorem yB1 (caps args : List AV) (H : Heap) : (lim xAS).icall (.func 19 caps) args H = xBG (lim xAS) a19 (args ++ caps) H := xAU rfl caps args H
theorem yEk (args : List AV) : (lim xAS).pcall 20 args = xBg (lim xAS) a20 args := xAP rfl args
theorem yDP (args : List AV) : (lim xAS).pcall 21 args = xBg (lim xAS) a21 args := xAP rfl args
theorem yEl (args : List AV) : (lim xAS).pcall 22 args = xBg (lim xAS) a22 args := xAP rfl args
theorem yDQ (caps args : List AV) (H : Heap) : (lim xAS).icall (.func 23 caps) args H = xBG (lim xAS) a23 (args ++ caps) H := xAU rfl caps args H
theorem yEm (caps args : List AV) (H : Heap) : (lim xAS).icall (.func 24 caps) args H = xBG (lim xAS) a24 (args ++ caps) H := xAU rfl caps args H
theorem yB2 (args : List AV) : (lim xAS).pcall 26 args = xBg (lim xAS) a26 args := xAP rfl args
theorem yEn (args : List AV) : (lim xAS).pcall 31 args = xBg (lim xAS) a31 args := xAP rfl args
theorem yEo (args : List AV) : (lim xAS).pcall 32 args = xBg (lim xAS) a32 args := xAP rfl args
theorem yEp (args : List AV) : (lim xAS).pcall 33 args = xBg (lim xAS) a33 args := xAP rfl args
theorem yEq (args : List AV) : (lim xAS).pcall 34 args = xBg (lim xAS) a34 args := xAP rfl args
theorem yDR (args : List AV) : (lim xAS).pcall 35 args = xBg (lim xAS) a35 args := xAP rfl args
theorem yDS (args : List AV) : (lim xAS).pcall 36 args = xBg (lim xAS) a36 args := xAP rfl args
theorem yDT (args : List AV) : (lim xAS).pcall 37 args = xBg (lim xAS) a37 args := xAP rfl args
theorem yDU (args : List AV) : (lim xAS).pcall 38 args = xBg (lim xAS) a38 args := xAP rfl args
theorem yEr (args : List AV) : (lim xAS).pcall 39 args = xBg (lim xAS) a39 args := xAP rfl args
theorem yEs (caps args : List AV) (H : Heap) : (lim xAS).icall (.func 40 caps) args H = xBG (lim xAS) a40 (args ++ caps) H := xAU rfl caps args H
theorem yEt (caps args : List AV) (H : Heap) : (lim xAS).icall (.func 41 caps) args H = xBG (lim xAS) a41 (args ++ caps) H := xAU rfl caps args H
theorem yEu (caps args : List AV) (H : Heap) : (lim xAS).icall (.func 42 caps) args H = xBG (lim xAS) a42 (args ++ caps) H := xAU rfl caps args H
theorem yDV (args : List AV) : (lim xAS).pcall 43 args = xBg (lim xAS) a43 args := xAP rfl args
theorem yDW (caps args : List AV) (H : Heap) : (lim xAS).icall (.func 43 caps) args H = xBG (lim xAS) a43 (args ++ caps) H := xAU rfl caps args H
theorem yEv (args : List AV) : (lim xAS).pcall 44 args = xBg (lim xAS) a44 args := xAP rfl args
theorem yDX (args : List AV) : (lim xAS).pcall 45 args = xBg (lim xAS) a45 args := xAP rfl args
theorem yEw (caps args : List AV) (H : Heap) : (lim xAS).icall (.func 46 caps) args H = xBG (lim xAS) a46 (args ++ caps) H := xAU rfl caps args H
theorem yDg (args : List AV) : (lim xAS).pcall 47 args = xBg (lim xAS) a47 args := xAP rfl args
theorem yDY (caps args : List AV) (H : Heap) : (lim xAS).icall (.func 48 caps) args H = xBG (lim xAS) a48 (args ++ caps) H := xAU rfl caps args H
theorem yDZ (caps args : List AV) (H : Heap) : (lim xAS).icall (.func 49 caps) args H = xBG (lim xAS) a49 (args ++ caps) H := xAU rfl caps args H
theorem yEx (args : List AV) : (lim xAS).pcall 50 args = xBg (lim xAS) a50 args := xAP rfl args
theorem yD0 (caps args : List AV) (H : Heap) : (lim xAS).icall (.func 51 caps) args H = xBG (lim xAS) a51 (args ++ caps) H := xAU rfl caps args H
theorem yD1 (caps args : List AV) (H : Heap) : (lim xAS).icall (.func 52 caps) args H = xBG (lim xAS) a52 (args ++ caps) H := xAU rfl caps args H
theorem yEy (args : List AV) : (lim xAS).pcall 53 args = xBg (lim xAS) a53 args := xAP rfl args
theorem yEz (caps args : List AV) (H : Heap) : (lim xAS).icall (.func 54 caps) args H = xBG (lim xAS) a54 (args ++ caps) H := xAU rfl caps args H
theorem yEA (caps args : List AV) (H : Heap) : (lim xAS).icall (.func 55 caps) args H = xBG (lim xAS) a55 (args ++ caps) H := xAU rfl caps args H
theorem yEB (caps args : List AV) (H : Heap) : (lim xAS).icall (.func 56 caps) args H = xBG (lim xAS) a56 (args ++ caps) H := xAU rfl caps args H
theorem yEC (caps args : List AV) (H : Heap) : (lim xAS).icall (.func 57 caps) args H = xBG (lim xAS) a57 (args ++ caps) H := xAU rfl caps args H
theorem yED (args : List AV) : (lim xAS).pcall 58 args = xBg (lim xAS) a58 args := xAP rfl args
theorem yEE (args : List AV) : (lim xAS).pcall 59 args = xBg (lim xAS) a59 args := xAP rfl args
theorem yEF (args : List AV) : (lim xAS).pcall 64 args = xBg (lim xAS) a64 args := xAP rfl args
theorem yEG (args : List AV) : (lim xAS).pcall 65 args = xBg (lim xAS) a65 args := xAP rfl args
theorem yEH (caps args : List AV) (H : Heap) : (lim xAS).icall (.func 66 caps) args H = xBG (lim xAS) a66 (args ++ caps) H := xAU rfl caps args H
theorem yEI (args : List AV) : (lim xAS).pcall 67 args = xBg (lim xAS) a67 args := xAP rfl args
theorem yD2 (args : List AV) : (lim xAS).pcall 68 args = xBg (lim xAS) a68 args := xAP rfl args
theorem yD3 (caps args : List AV) (H : Heap) : (lim xAS).icall (.func 68 caps) args H = xBG (lim xAS) a68 (args ++ caps) H := xAU rfl caps args H
theorem yD4 (caps args : List AV) (H : Heap) : (lim xAS).icall (.func 69 caps) args H = xBG (lim xAS) a69 (args ++ caps) H := xAU rfl caps args H
theorem yD5 (caps args : List AV) (H : Heap) : (lim xAS).icall (.func 70 caps) args H = xBG (lim xAS) a70 (args ++ caps) H := xAU rfl caps args H
theorem yEJ (caps args : List AV) (H : Heap) : (lim xAS).icall (.func 71 caps) args H = xBG (lim xAS) a71 (args ++ caps) H := xAU rfl caps args H
theorem yEK (args : List AV) : (lim xAS).pcall 72 args = xBg (lim xAS) a72 args := xAP rfl args
theorem yEL (args : List AV) : (lim xAS).pcall 73 args = xBg (lim xAS) a73 args := xAP rfl args
theorem yD6 (caps args : List AV) (H : Heap) : (lim xAS).icall (.func 77 caps) args H = xBG (lim xAS) a77 (args ++ caps) H := xAU rfl caps args H
theorem yEM (args : List AV) : (lim xAS).pcall 78 args = xBg (lim xAS) a78 args := xAP rfl args
theorem yEN (args : List AV) : (lim xAS).pcall 79 args = xBg (lim xAS) a79 args := xAP rfl args
theorem yD7 (caps args : List AV) (H : Heap) : (lim xAS).icall (.func 80 caps) args H = xBG (lim xAS) a80 (args ++ caps) H := xAU rfl caps args H
theorem yEO (args : List AV) : (lim xAS).pcall 81 args = xBg (lim xAS) a81 args := xAP rfl args
theorem yD8 (caps args : List AV) (H : Heap) : (lim xAS).icall (.func 82 caps) args H = xBG (lim xAS) a82 (args ++ caps) H := xAU rfl caps args H
theorem yD9 (caps args : List AV) (H : Heap) : (lim xAS).icall (.func 83 caps) args H = xBG (lim xAS) a83 (args ++ caps) H := xAU rfl caps args H
theorem yEP (args : List AV) : (lim xAS).pcall 84 args = xBg (lim xAS) a84 args := xAP rfl args
theorem yEQ (caps args : List AV) (H : Heap) : (lim xAS).icall (.func 88 caps) args H = xBG (lim xAS) a88 (args ++ caps) H := xAU rfl caps args H
end Go.Abs.NfaD
