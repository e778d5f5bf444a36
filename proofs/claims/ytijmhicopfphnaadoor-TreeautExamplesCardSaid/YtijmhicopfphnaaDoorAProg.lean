/- The functions in the interpreter's words. -/
import Derived.Test.YtijmhicopfphnaaDoorAbsEnc
import Derived.Test.YtijmhicopfphnaaDoorProg
namespace Go.Abs.Tree
open Go Go.Abs
abbrev oO (n : Nat) (x : AOp) : AOper := ⟨some n,x,none⟩
abbrev oT (n m : Nat) : AOper := ⟨some n,.mov (.t m),none⟩
abbrev oG (n k m : Nat) : AOper := ⟨some n,.load true k (.t m),none⟩
abbrev oH (n k m : Nat) : AOper := ⟨some n,.load false k (.t m),none⟩
abbrev oF (n k m : Nat) : AOper := ⟨some n,.faddr k (.t m),none⟩
abbrev oN (n m : Nat) : AOper := ⟨some n,.len (.t m),none⟩
abbrev oM (n : Nat) (x : Arg) : AOper := ⟨some n,.mov x,none⟩
abbrev oX (n : Nat) (x : Arg) : AOper := ⟨some n,.box x,none⟩
abbrev oB (n : Nat) (o : BinOp) (a b : Nat) : AOper := ⟨some n,.bin o (.t a) (.t b),none⟩
abbrev oA (n : Nat) (o : BinOp) (a : Nat) (x : Arg) : AOper := ⟨some n,.bin o (.t a) x,none⟩
abbrev oI (n : Int) : AV := .int .i64 n
abbrev oS : AV := .sl true 0 []
abbrev oR (l : List AOper) (c : ACode) : ACode := .seq (.region l) c
abbrev oE : AV := .any
def xZO : ACode :=
 .seq (oR ([oT 37 7,
 oA 38 .lss 37 (.c (oI 2))])
 (.cond (.t 38)
 .skip
 (.exit 0)))
 (.seq (.block 1 (oR ([oG 42 5 5,
 oT 43 6,
 oO 44 (.ocall 16 [.t 42,.t 43]),
 oT 41 44,
 oO 45 (.ext 0 (.t 41)),
 oO 46 (.ext 1 (.t 41)),
 oT 8 45,
 oT 9 46])
 (oR ([oG 48 5 5,
 oT 49 6,
 oO 50 (.call 17 [.t 48,.t 49]),
 oT 47 50,
 oO 51 (.ext 0 (.t 47)),
 oO 52 (.ext 1 (.t 47)),
 oT 10 51,
 oT 11 52])
 (oR ([oG 54 5 5,
 oT 55 6,
 oO 56 (.call 18 [.t 54,.t 55]),
 oT 53 56,
 oO 57 (.ext 0 (.t 53)),
 oO 58 (.ext 1 (.t 53)),
 oT 12 57,
 oT 13 58])
 (oR ([oG 60 5 5,
 oT 61 6,
 oO 62 (.call 19 [.t 60,.t 61]),
 oT 59 62,
 oO 63 (.ext 0 (.t 59)),
 oO 64 (.ext 1 (.t 59)),
 oT 14 63,
 oT 15 64])
 (oR ([oG 66 5 5,
 oO 67 (.ocall 20 [.t 66]),
 oT 65 67,
 oO 68 (.ext 0 (.t 65)),
 oO 69 (.ext 1 (.t 65)),
 oT 16 68,
 oT 17 69])
 (oR ([oG 71 5 5,
 oO 72 (.call 21 [.t 71]),
 oT 70 72,
 oO 73 (.ext 0 (.t 70)),
 oO 74 (.ext 1 (.t 70)),
 oT 18 73,
 oT 19 74])
 (oR ([oG 76 5 5,
 oO 77 (.ocallw 22 [.t 76]),
 oT 75 77,
 oO 78 (.ext 0 (.t 75)),
 oO 79 (.ext 1 (.t 75)),
 oX 20 (.c (.agg [oI 0,oI 0,oS,oS,oS])),
 ⟨none,.store 5 (.t 20) (.t 78),none⟩,
 oT 21 79])
 (oR ([oG 81 5 5,
 oO 82 (.call 23 [.t 81]),
 oT 80 82,
 oO 83 (.ext 0 (.t 80)),
 oO 84 (.ext 1 (.t 80)),
 oX 22 (.c (.agg [oI 0,oI 0,oS,oS,oS])),
 ⟨none,.store 5 (.t 22) (.t 83),none⟩,
 oT 23 84])
 (.seq (.seq (.draw 51 [oT 85 8,
 oT 86 10,
 oO 87 (.call 24 [.t 85,.t 86]),
 oO 88 (.un .not (.t 87)),
 oT 89 88,
 ⟨some 90,.mov (.t 9),some (89,false)⟩,
 ⟨some 91,.mov (.t 11),some (89,false)⟩,
 ⟨some 92,.bin .neq (.t 90) (.t 91),some (89,false)⟩,
 oO 93 (.pick (.t 89) (.c (.bool true)) (.t 92)),
 oT 94 93,
 ⟨some 95,.mov (.t 12),some (94,false)⟩,
 ⟨some 96,.mov (.t 14),some (94,false)⟩,
 ⟨some 97,.beq true (.t 95) (.t 96),some (94,false)⟩,
 oO 98 (.pick (.t 94) (.c (.bool true)) (.t 97)),
 oT 99 98,
 ⟨some 100,.mov (.t 13),some (99,false)⟩,
 ⟨some 101,.mov (.t 15),some (99,false)⟩,
 ⟨some 102,.bin .neq (.t 100) (.t 101),some (99,false)⟩,
 oO 103 (.pick (.t 99) (.c (.bool true)) (.t 102)),
 oT 104 103,
 ⟨some 105,.mov (.t 16),some (104,false)⟩,
 ⟨some 106,.mov (.t 18),some (104,false)⟩,
 ⟨some 107,.call 24 [.t 105,.t 106],some (104,false)⟩,
 ⟨some 108,.un .not (.t 107),some (104,false)⟩,
 oO 109 (.pick (.t 104) (.c (.bool true)) (.t 108)),
 oT 110 109,
 ⟨some 111,.mov (.t 17),some (110,false)⟩,
 ⟨some 112,.mov (.t 19),some (110,false)⟩,
 ⟨some 113,.bin .neq (.t 111) (.t 112),some (110,false)⟩,
 oO 114 (.pick (.t 110) (.c (.bool true)) (.t 113)),
 oT 115 114,
 ⟨some 116,.load true 5 (.t 20),some (115,false)⟩,
 ⟨some 117,.load true 5 (.t 22),some (115,false)⟩,
 ⟨some 118,.call 25 [.t 116,.t 117],some (115,false)⟩,
 ⟨some 119,.un .not (.t 118),some (115,false)⟩,
 oO 120 (.pick (.t 115) (.c (.bool true)) (.t 119)),
 oT 121 120,
 ⟨some 122,.mov (.t 21),some (121,false)⟩,
 ⟨some 123,.mov (.t 23),some (121,false)⟩,
 ⟨some 124,.bin .neq (.t 122) (.t 123),some (121,false)⟩,
 oO 125 (.pick (.t 121) (.c (.bool true)) (.t 124)),
 oT 126 125,
 ⟨some 127,.load true 5 (.t 5),some (126,false)⟩,
 ⟨some 128,.load true 5 (.t 2),some (126,false)⟩,
 ⟨some 129,.call 12 [.t 128],some (126,false)⟩,
 ⟨some 130,.call 25 [.t 127,.t 129],some (126,false)⟩,
 ⟨some 131,.un .not (.t 130),some (126,false)⟩,
 oO 132 (.pick (.t 126) (.c (.bool true)) (.t 131)),
 oT 133 132,
 ⟨some 134,.mov (.t 6),some (133,false)⟩,
 ⟨some 135,.mov (.t 1),some (133,false)⟩,
 ⟨some 136,.mov (.t 1),some (133,false)⟩,
 ⟨some 137,.len (.t 136),some (133,false)⟩,
 ⟨some 138,.mini (.t 137) (.c (oI 40)),some (133,false)⟩,
 ⟨some 139,.slice 3 (.t 135) none (some (.t 138)) none,some (133,false)⟩,
 ⟨some 140,.call 26 [.t 134,.t 139],some (133,false)⟩,
 ⟨some 141,.un .not (.t 140),some (133,false)⟩,
 oO 142 (.pick (.t 133) (.c (.bool true)) (.t 141))])
 (.cond (.t 142)
 (oR ([oM 4 (.c (.bool false))])
 .ret)
 .skip))
 (oR ([oT 143 8,
 oO 144 (.icall (.c (.func 27 [])) [.t 143])])
 (oR ([oT 145 16,
 oO 146 (.icall (.c (.func 27 [])) [.t 145])])
 (.region [oG 147 5 20,
 oO 148 (.icall (.c (.func 28 [])) [.t 147])])))))))))))))
 (.region [oT 39 7,
 oA 40 .add 39 (.c (oI 1)),
 oT 7 40]))
def xZn : ACode := xZO
def xNV : List Nat := [0,3,8,9,10,11,12,13,14,15,16,17,18,19,20,21,22,23,24,25,26,27,28,29,30,31,32,33,34,35,36,37,38,39,40,41,42,43,44,45,46,47,48,49,50,51,52,53,54,55,56,57,58,59,60,61,62,63,64,65,66,67,68,69,70,71,72,73,74,75,76,77,78,79,80,81,82,83,84,85,86,87,88,89,90,91,92,93,94,95,96,97,98,99,100,101,102,103,104,105,106,107,108,109,110,111,112,113,114,115,116,117,118,119,120,121,122,123,124,125,126,127,128,129,130,131,132,133,134,135,136,137,138,139,140,141,142,143,144,145,146,147,148,149]
abbrev xNW (s1 s2 s4 s5 s6 s7 : AV) : List AV := [oE,s1,s2,oE,s4,s5,s6,s7,oE,oE,oE,oE,oE,oE,oE,oE,oE,oE,oE,oE,oE,oE,oE,oE,oE,oE,oE,oE,oE,oE,oE,oE,oE,oE,oE,oE,oE,oE,oE,oE,oE,oE,oE,oE,oE,oE,oE,oE,oE,oE,oE,oE,oE,oE,oE,oE,oE,oE,oE,oE,oE,oE,oE,oE,oE,oE,oE,oE,oE,oE,oE,oE,oE,oE,oE,oE,oE,oE,oE,oE,oE,oE,oE,oE,oE,oE,oE,oE,oE,oE,oE,oE,oE,oE,oE,oE,oE,oE,oE,oE,oE,oE,oE,oE,oE,oE,oE,oE,oE,oE,oE,oE,oE,oE,oE,oE,oE,oE,oE,oE,oE,oE,oE,oE,oE,oE,oE,oE,oE,oE,oE,oE,oE,oE,oE,oE,oE,oE,oE,oE,oE,oE,oE,oE,oE,oE,oE,oE,oE,oE]
theorem yCM (a b c d e f g h i j k l m n o p q r s t u v w x y z A B C D E F G H I J K L M N O P Q R S T U V W X Y Z a0 a1 a2 a3 a4 a5 a6 a7 a8 a9 b0 b1 b2 b3 b4 b5 b6 b7 b8 b9 c0 c1 c2 c3 c4 c5 c6 c7 c8 c9 d0 d1 d2 d3 d4 d5 d6 d7 d8 d9 e0 e1 e2 e3 e4 e5 e6 e7 e8 e9 f0 f1 f2 f3 f4 f5 f6 f7 f8 f9 g0 g1 g2 g3 g4 g5 g6 g7 g8 g9 h0 h1 h2 h3 h4 h5 h6 h7 h8 h9 i0 i1 i2 i3 i4 i5 i6 i7 i8 i9 j0 j1 j2 j3 j4 j5 j6 j7 : AV) : xAH xNV [a,b,c,d,e,f,g,h,i,j,k,l,m,n,o,p,q,r,s,t,u,v,w,x,y,z,A,B,C,D,E,F,G,H,I,J,K,L,M,N,O,P,Q,R,S,T,U,V,W,X,Y,Z,a0,a1,a2,a3,a4,a5,a6,a7,a8,a9,b0,b1,b2,b3,b4,b5,b6,b7,b8,b9,c0,c1,c2,c3,c4,c5,c6,c7,c8,c9,d0,d1,d2,d3,d4,d5,d6,d7,d8,d9,e0,e1,e2,e3,e4,e5,e6,e7,e8,e9,f0,f1,f2,f3,f4,f5,f6,f7,f8,f9,g0,g1,g2,g3,g4,g5,g6,g7,g8,g9,h0,h1,h2,h3,h4,h5,h6,h7,h8,h9,i0,i1,i2,i3,i4,i5,i6,i7,i8,i9,j0,j1,j2,j3,j4,j5,j6,j7] = xNW b c e f g h := by kernel_rfl
theorem yEz {prog : Nat → Option AFunc} (s1 s2 s4 s5 s6 s7 : AV) (H : Heap) : (lim prog).loop xNV xZn ⟨xNW s1 s2 s4 s5 s6 s7,H⟩ = xDR (lim prog) xNV xZn (run (lim prog) xZO ⟨xNW s1 s2 s4 s5 s6 s7,H⟩) := xAe _ _ _ _ (by kernel_rfl)
def a3 : AFunc := ⟨150,
 oR ([oX 2 (.t 0),
 oM 4 (.c (.bool false))])
 (.seq (.draw 9 [oG 24 5 2,
 oO 25 (.call 12 [.t 24]),
 oT 26 1,
 oT 27 1,
 oN 28 27,
 oO 29 (.mini (.t 28) (.c (oI 40))),
 oO 30 (.slice 3 (.t 26) none (some (.t 29)) none),
 oO 31 (.call 13 [.t 30]),
 oX 5 (.c (.agg [oI 0,oI 0,oS,oS,oS])),
 ⟨none,.store 5 (.t 5) (.t 25),none⟩,
 oT 6 31])
 (.seq (.seq (.draw 3 [oG 32 5 5,
 oO 33 (.call 14 [.t 32]),
 oG 34 5 5,
 oO 35 (.call 15 [.t 34]),
 oB 36 .neq 33 35])
 (.cond (.t 36)
 (oR ([oM 4 (.c (.bool false))])
 .ret)
 .skip))
 (.seq (oR ([oM 7 (.c (oI 0))])
 (.block 0 (.loop xNV xZn)))
 (oR ([oO 149 (.call 29 []),
 oT 4 149])
 .ret)))),
 [.tmp 4]⟩
def xWX : ACode :=
 .seq (oR ([oT 16 7,
 oA 17 .lss 16 (.c (oI 2))])
 (.cond (.t 17)
 .skip
 (.exit 0)))
 (.seq (.block 1 (oR ([oG 21 5 5,
 oG 22 5 6,
 oO 23 (.ocall 30 [.t 21,.t 22]),
 oT 20 23,
 oO 24 (.ext 0 (.t 20)),
 oO 25 (.ext 1 (.t 20)),
 oX 8 (.c (.agg [oI 0,oI 0,oS,oS,oS])),
 ⟨none,.store 5 (.t 8) (.t 24),none⟩,
 oT 9 25])
 (oR ([oG 27 5 5,
 oG 28 5 6,
 oO 29 (.call 31 [.t 27,.t 28]),
 oT 26 29,
 oO 30 (.ext 0 (.t 26)),
 oO 31 (.ext 1 (.t 26)),
 oX 10 (.c (.agg [oI 0,oI 0,oS,oS,oS])),
 ⟨none,.store 5 (.t 10) (.t 30),none⟩,
 oT 11 31])
 (.seq (.seq (.draw 20 [oG 32 5 8,
 oG 33 5 10,
 oO 34 (.call 25 [.t 32,.t 33]),
 oO 35 (.un .not (.t 34)),
 oT 36 35,
 ⟨some 37,.mov (.t 9),some (36,false)⟩,
 ⟨some 38,.mov (.t 11),some (36,false)⟩,
 ⟨some 39,.bin .neq (.t 37) (.t 38),some (36,false)⟩,
 oO 40 (.pick (.t 36) (.c (.bool true)) (.t 39)),
 oT 41 40,
 ⟨some 42,.load true 5 (.t 5),some (41,false)⟩,
 ⟨some 43,.load true 5 (.t 2),some (41,false)⟩,
 ⟨some 44,.call 12 [.t 43],some (41,false)⟩,
 ⟨some 45,.call 25 [.t 42,.t 44],some (41,false)⟩,
 ⟨some 46,.un .not (.t 45),some (41,false)⟩,
 oO 47 (.pick (.t 41) (.c (.bool true)) (.t 46)),
 oT 48 47,
 ⟨some 49,.load true 5 (.t 6),some (48,false)⟩,
 ⟨some 50,.load true 5 (.t 3),some (48,false)⟩,
 ⟨some 51,.call 12 [.t 50],some (48,false)⟩,
 ⟨some 52,.call 25 [.t 49,.t 51],some (48,false)⟩,
 ⟨some 53,.un .not (.t 52),some (48,false)⟩,
 oO 54 (.pick (.t 48) (.c (.bool true)) (.t 53))])
 (.cond (.t 54)
 (oR ([oM 4 (.c (.bool false))])
 .ret)
 .skip))
 (.region [oG 55 5 8,
 oO 56 (.icall (.c (.func 28 [])) [.t 55])])))))
 (.region [oT 18 7,
 oA 19 .add 18 (.c (oI 1)),
 oT 7 19]))
def yFJ : ACode := xWX
def xWY : List Nat := [0,1,8,9,10,11,12,13,14,15,16,17,18,19,20,21,22,23,24,25,26,27,28,29,30,31,32,33,34,35,36,37,38,39,40,41,42,43,44,45,46,47,48,49,50,51,52,53,54,55,56,57]
abbrev xWZ (s2 s3 s4 s5 s6 s7 : AV) : List AV := [oE,oE,s2,s3,s4,s5,s6,s7,oE,oE,oE,oE,oE,oE,oE,oE,oE,oE,oE,oE,oE,oE,oE,oE,oE,oE,oE,oE,oE,oE,oE,oE,oE,oE,oE,oE,oE,oE,oE,oE,oE,oE,oE,oE,oE,oE,oE,oE,oE,oE,oE,oE,oE,oE,oE,oE,oE,oE]
theorem xZP (a b c d e f g h i j k l m n o p q r s t u v w x y z A B C D E F G H I J K L M N O P Q R S T U V W X Y Z a0 a1 a2 a3 a4 a5 : AV) : xAH xWY [a,b,c,d,e,f,g,h,i,j,k,l,m,n,o,p,q,r,s,t,u,v,w,x,y,z,A,B,C,D,E,F,G,H,I,J,K,L,M,N,O,P,Q,R,S,T,U,V,W,X,Y,Z,a0,a1,a2,a3,a4,a5] = xWZ c d e f g h := by kernel_rfl
theorem yCN {prog : Nat → Option AFunc} (s2 s3 s4 s5 s6 s7 : AV) (H : Heap) : (lim prog).loop xWY yFJ ⟨xWZ s2 s3 s4 s5 s6 s7,H⟩ = xDR (lim prog) xWY yFJ (run (lim prog) xWX ⟨xWZ s2 s3 s4 s5 s6 s7,H⟩) := xAe _ _ _ _ (by kernel_rfl)
def a4 : AFunc := ⟨58,
 oR ([oX 2 (.t 0),
 oX 3 (.t 1),
 oM 4 (.c (.bool false))])
 (.seq (.draw 6 [oG 12 5 2,
 oO 13 (.call 12 [.t 12]),
 oG 14 5 3,
 oO 15 (.call 12 [.t 14]),
 oX 5 (.c (.agg [oI 0,oI 0,oS,oS,oS])),
 oX 6 (.c (.agg [oI 0,oI 0,oS,oS,oS])),
 ⟨none,.store 5 (.t 5) (.t 13),none⟩,
 ⟨none,.store 5 (.t 6) (.t 15),none⟩])
 (.seq (oR ([oM 7 (.c (oI 0))])
 (.block 0 (.loop xWY yFJ)))
 (oR ([oO 57 (.call 29 []),
 oT 4 57])
 .ret))),
 [.tmp 4]⟩
def xW0 : ACode :=
 .seq (oR ([oT 11 2,
 oA 12 .lss 11 (.c (oI 6))])
 (.cond (.t 12)
 .skip
 (.exit 0)))
 (.seq (.block 1 (oR ([oT 15 1,
 oT 16 2,
 oO 17 (.build [oI 0,oI 0,oS,oS,oS] [(0,1,.t 16),(1,1,(.c (oI 2)))]),
 oT 18 2,
 oO 19 (.build [oI 0,oI 0,oS,oS,oS] [(0,1,(.c (oI 1))),(1,1,.t 18)]),
 oT 20 2,
 oO 21 (.bslice true [oI 0] 1 1 [(0,.t 20)]),
 oO 22 (.build [oI 0,oI 0,oS,oS,oS] [(0,1,(.c (oI 1))),(1,1,(.c (oI 3))),(2,1,.t 21)]),
 oT 23 2,
 oO 24 (.bslice true [oI 0] 1 2 [(0,(.c (oI 1))),(1,.t 23)]),
 oO 25 (.build [oI 0,oI 0,oS,oS,oS] [(0,1,(.c (oI 1))),(1,1,(.c (oI 3))),(2,1,.t 24)]),
 oT 26 2,
 oO 27 (.bslice true [oI 0] 1 2 [(0,(.c (oI 0))),(1,.t 26)]),
 oO 28 (.build [oI 0,oI 0,oS,oS,oS] [(0,1,(.c (oI 1))),(1,1,(.c (oI 3))),(3,1,.t 27)]),
 oT 29 2,
 oO 30 (.bslice true [oI 0] 1 2 [(0,.t 29),(1,(.c (oI 2)))]),
 oO 31 (.build [oI 0,oI 0,oS,oS,oS] [(0,1,(.c (oI 1))),(1,1,(.c (oI 3))),(3,1,.t 30)]),
 oO 32 (.bslice true [oI 0,oI 0,oS,oS,oS] 5 6 [(0,.t 17),(1,.t 19),(2,.t 22),(3,.t 25),(4,.t 28),(5,.t 31)]),
 oO 33 (.append false 5 88 (.t 15) (.t 32)),
 oT 1 33])
 (.region [oT 34 1,
 oO 35 (.bslice true [oI 0] 1 1 [(0,(.c (oI 0)))]),
 oO 36 (.bslice true [oI 0] 1 1 [(0,(.c (oI 1)))]),
 oT 37 2,
 oO 38 (.build [oI 0,oI 0,oI 0,.int .u8 0,.int .u8 0] [(0,1,.t 37)]),
 oT 39 2,
 oO 40 (.build [oI 0,oI 0,oI 0,.int .u8 0,.int .u8 0] [(1,1,.t 39)]),
 oO 41 (.bslice true [oI 0,oI 0,oI 0,.int .u8 0,.int .u8 0] 5 2 [(0,.t 38),(1,.t 40)]),
 oO 42 (.build [oI 0,oI 0,oS,oS,oS] [(0,1,(.c (oI 2))),(1,1,(.c (oI 3))),(2,1,.t 35),(3,1,.t 36),(4,1,.t 41)]),
 oO 43 (.bslice true [oI 0] 1 1 [(0,(.c (oI 0)))]),
 oO 44 (.bslice true [oI 0] 1 1 [(0,(.c (oI 1)))]),
 oT 45 2,
 oO 46 (.build [oI 0,oI 0,oI 0,.int .u8 0,.int .u8 0] [(1,1,.t 45)]),
 oO 47 (.bslice true [oI 0,oI 0,oI 0,.int .u8 0,.int .u8 0] 5 1 [(0,.t 46)]),
 oO 48 (.build [oI 0,oI 0,oS,oS,oS] [(0,1,(.c (oI 2))),(1,1,(.c (oI 3))),(2,1,.t 43),(3,1,.t 44),(4,1,.t 47)]),
 oO 49 (.bslice true [oI 0] 1 1 [(0,(.c (oI 0)))]),
 oO 50 (.bslice true [oI 0] 1 1 [(0,(.c (oI 1)))]),
 oT 51 2,
 oO 52 (.build [oI 0,oI 0,oI 0,.int .u8 0,.int .u8 0] [(2,1,.t 51)]),
 oT 53 2,
 oA 54 .and 53 (.c (oI 7)),
 oO 55 (.conv .u8 (.t 54)),
 oO 56 (.build [oI 0,oI 0,oI 0,.int .u8 0,.int .u8 0] [(2,1,(.c (oI 1))),(3,1,.t 55),(4,1,(.c (.int .u8 2)))]),
 oO 57 (.bslice true [oI 0,oI 0,oI 0,.int .u8 0,.int .u8 0] 5 2 [(0,.t 52),(1,.t 56)]),
 oO 58 (.build [oI 0,oI 0,oS,oS,oS] [(0,1,(.c (oI 2))),(1,1,(.c (oI 3))),(2,1,.t 49),(3,1,.t 50),(4,1,.t 57)]),
 oO 59 (.bslice true [oI 0] 1 1 [(0,(.c (oI 0)))]),
 oT 60 2,
 oA 61 .and 60 (.c (oI 7)),
 oO 62 (.conv .u8 (.t 61)),
 oO 63 (.build [oI 0,oI 0,oI 0,.int .u8 0,.int .u8 0] [(3,1,(.c (.int .u8 1))),(4,1,.t 62)]),
 oO 64 (.bslice true [oI 0,oI 0,oI 0,.int .u8 0,.int .u8 0] 5 1 [(0,.t 63)]),
 oO 65 (.build [oI 0,oI 0,oS,oS,oS] [(0,1,(.c (oI 2))),(1,1,(.c (oI 3))),(2,1,.t 59),(4,1,.t 64)]),
 oO 66 (.bslice true [oI 0,oI 0,oS,oS,oS] 5 4 [(0,.t 42),(1,.t 48),(2,.t 58),(3,.t 65)]),
 oO 67 (.append false 5 88 (.t 34) (.t 66)),
 oT 1 67])))
 (.region [oT 13 2,
 oA 14 .add 13 (.c (oI 1)),
 oT 2 14]))
def yFK : ACode := xW0
def xW1 : List Nat := [0,3,4,5,6,7,8,9,10,11,12,13,14,15,16,17,18,19,20,21,22,23,24,25,26,27,28,29,30,31,32,33,34,35,36,37,38,39,40,41,42,43,44,45,46,47,48,49,50,51,52,53,54,55,56,57,58,59,60,61,62,63,64,65,66,67,68,69,70,71,72,73,74,75,76,77,78,79,80,81,82,83,84,85,86,87,88,89,90,91,92,93,94,95,96,97,98,99,100,101,102,103,104,105,106,107,108,109,110,111,112,113,114,115,116,117,118,119,120,121,122,123,124,125,126,127,128,129,130,131,132,133,134,135,136,137,138,139,140,141,142,143,144,145,146,147,148,149,150,151,152,153,154,155,156,157,158,159,160,161,162,163,164,165,166,167,168,169,170,171,172,173,174,175,176,177,178,179,180,181,182,183,184,185,186,187,188,189,190,191,192,193,194,195,196,197,198,199,200,201,202,203,204,205,206,207,208]
abbrev xW2 (s1 s2 : AV) : List AV := [oE,s1,s2,oE,oE,oE,oE,oE,oE,oE,oE,oE,oE,oE,oE,oE,oE,oE,oE,oE,oE,oE,oE,oE,oE,oE,oE,oE,oE,oE,oE,oE,oE,oE,oE,oE,oE,oE,oE,oE,oE,oE,oE,oE,oE,oE,oE,oE,oE,oE,oE,oE,oE,oE,oE,oE,oE,oE,oE,oE,oE,oE,oE,oE,oE,oE,oE,oE,oE,oE,oE,oE,oE,oE,oE,oE,oE,oE,oE,oE,oE,oE,oE,oE,oE,oE,oE,oE,oE,oE,oE,oE,oE,oE,oE,oE,oE,oE,oE,oE,oE,oE,oE,oE,oE,oE,oE,oE,oE,oE,oE,oE,oE,oE,oE,oE,oE,oE,oE,oE,oE,oE,oE,oE,oE,oE,oE,oE,oE,oE,oE,oE,oE,oE,oE,oE,oE,oE,oE,oE,oE,oE,oE,oE,oE,oE,oE,oE,oE,oE,oE,oE,oE,oE,oE,oE,oE,oE,oE,oE,oE,oE,oE,oE,oE,oE,oE,oE,oE,oE,oE,oE,oE,oE,oE,oE,oE,oE,oE,oE,oE,oE,oE,oE,oE,oE,oE,oE,oE,oE,oE,oE,oE,oE,oE,oE,oE,oE,oE,oE,oE,oE,oE,oE,oE,oE,oE,oE,oE]
theorem xZQ (a b c d e f g h i j k l m n o p q r s t u v w x y z A B C D E F G H I J K L M N O P Q R S T U V W X Y Z a0 a1 a2 a3 a4 a5 a6 a7 a8 a9 b0 b1 b2 b3 b4 b5 b6 b7 b8 b9 c0 c1 c2 c3 c4 c5 c6 c7 c8 c9 d0 d1 d2 d3 d4 d5 d6 d7 d8 d9 e0 e1 e2 e3 e4 e5 e6 e7 e8 e9 f0 f1 f2 f3 f4 f5 f6 f7 f8 f9 g0 g1 g2 g3 g4 g5 g6 g7 g8 g9 h0 h1 h2 h3 h4 h5 h6 h7 h8 h9 i0 i1 i2 i3 i4 i5 i6 i7 i8 i9 j0 j1 j2 j3 j4 j5 j6 j7 j8 j9 k0 k1 k2 k3 k4 k5 k6 k7 k8 k9 l0 l1 l2 l3 l4 l5 l6 l7 l8 l9 m0 m1 m2 m3 m4 m5 m6 m7 m8 m9 n0 n1 n2 n3 n4 n5 n6 n7 n8 n9 o0 o1 o2 o3 o4 o5 o6 o7 o8 o9 p0 p1 p2 p3 p4 p5 p6 : AV) : xAH xW1 [a,b,c,d,e,f,g,h,i,j,k,l,m,n,o,p,q,r,s,t,u,v,w,x,y,z,A,B,C,D,E,F,G,H,I,J,K,L,M,N,O,P,Q,R,S,T,U,V,W,X,Y,Z,a0,a1,a2,a3,a4,a5,a6,a7,a8,a9,b0,b1,b2,b3,b4,b5,b6,b7,b8,b9,c0,c1,c2,c3,c4,c5,c6,c7,c8,c9,d0,d1,d2,d3,d4,d5,d6,d7,d8,d9,e0,e1,e2,e3,e4,e5,e6,e7,e8,e9,f0,f1,f2,f3,f4,f5,f6,f7,f8,f9,g0,g1,g2,g3,g4,g5,g6,g7,g8,g9,h0,h1,h2,h3,h4,h5,h6,h7,h8,h9,i0,i1,i2,i3,i4,i5,i6,i7,i8,i9,j0,j1,j2,j3,j4,j5,j6,j7,j8,j9,k0,k1,k2,k3,k4,k5,k6,k7,k8,k9,l0,l1,l2,l3,l4,l5,l6,l7,l8,l9,m0,m1,m2,m3,m4,m5,m6,m7,m8,m9,n0,n1,n2,n3,n4,n5,n6,n7,n8,n9,o0,o1,o2,o3,o4,o5,o6,o7,o8,o9,p0,p1,p2,p3,p4,p5,p6] = xW2 b c := by kernel_rfl
theorem yCO {prog : Nat → Option AFunc} (s1 s2 : AV) (H : Heap) : (lim prog).loop xW1 yFK ⟨xW2 s1 s2,H⟩ = xDR (lim prog) xW1 yFK (run (lim prog) xW0 ⟨xW2 s1 s2,H⟩) := xAe _ _ _ _ (by kernel_rfl)
def xZR : ACode :=
 .seq (oR ([oT 70 4,
 oT 71 1,
 oN 72 71,
 oB 73 .lss 70 72])
 (.cond (.t 73)
 .skip
 (.exit 2)))
 (.seq (.block 3 (.seq (.draw 41 [oT 76 1,
 oT 77 4,
 oO 78 (.iaddr 5 (.t 76) (.t 77)),
 oG 79 5 78,
 oT 80 3,
 oO 81 (.call 3 [.t 79,.t 80]),
 oO 82 (.un .not (.t 81)),
 oT 83 82,
 ⟨some 84,.mov (.t 1),some (83,false)⟩,
 ⟨some 85,.mov (.t 4),some (83,false)⟩,
 ⟨some 86,.iaddr 5 (.t 84) (.t 85),some (83,false)⟩,
 ⟨some 87,.load true 5 (.t 86),some (83,false)⟩,
 ⟨some 88,.call 3 [.t 87,(.c (oS))],some (83,false)⟩,
 ⟨some 89,.un .not (.t 88),some (83,false)⟩,
 oO 90 (.pick (.t 83) (.c (.bool true)) (.t 89)),
 oT 91 90,
 ⟨some 92,.mov (.t 1),some (91,false)⟩,
 ⟨some 93,.mov (.t 4),some (91,false)⟩,
 ⟨some 94,.iaddr 5 (.t 92) (.t 93),some (91,false)⟩,
 ⟨some 95,.load true 5 (.t 94),some (91,false)⟩,
 ⟨some 96,.call 32 [],some (91,false)⟩,
 ⟨some 97,.call 4 [.t 95,.t 96],some (91,false)⟩,
 ⟨some 98,.un .not (.t 97),some (91,false)⟩,
 oO 99 (.pick (.t 91) (.c (.bool true)) (.t 98)),
 oT 100 99,
 ⟨some 101,.call 32 [],some (100,false)⟩,
 ⟨some 102,.mov (.t 1),some (100,false)⟩,
 ⟨some 103,.mov (.t 4),some (100,false)⟩,
 ⟨some 104,.iaddr 5 (.t 102) (.t 103),some (100,false)⟩,
 ⟨some 105,.load true 5 (.t 104),some (100,false)⟩,
 ⟨some 106,.call 4 [.t 101,.t 105],some (100,false)⟩,
 ⟨some 107,.un .not (.t 106),some (100,false)⟩,
 oO 108 (.pick (.t 100) (.c (.bool true)) (.t 107)),
 oT 109 108,
 ⟨some 110,.mov (.t 1),some (109,false)⟩,
 ⟨some 111,.mov (.t 4),some (109,false)⟩,
 ⟨some 112,.iaddr 5 (.t 110) (.t 111),some (109,false)⟩,
 ⟨some 113,.load true 5 (.t 112),some (109,false)⟩,
 ⟨some 114,.mov (.t 1),some (109,false)⟩,
 ⟨some 115,.iaddr 5 (.t 114) (.c (oI 0)),some (109,false)⟩,
 ⟨some 116,.load true 5 (.t 115),some (109,false)⟩,
 ⟨some 117,.call 4 [.t 113,.t 116],some (109,false)⟩,
 ⟨some 118,.un .not (.t 117),some (109,false)⟩,
 oO 119 (.pick (.t 109) (.c (.bool true)) (.t 118))])
 (.cond (.t 119)
 (oR ([oM 0 (.c (.bool false))])
 .ret)
 .skip)))
 (.region [oT 74 4,
 oA 75 .add 74 (.c (oI 1)),
 oT 4 75]))
def yFL : ACode := xZR
def xW3 : List Nat := [2,5,6,7,8,9,10,11,12,13,14,15,16,17,18,19,20,21,22,23,24,25,26,27,28,29,30,31,32,33,34,35,36,37,38,39,40,41,42,43,44,45,46,47,48,49,50,51,52,53,54,55,56,57,58,59,60,61,62,63,64,65,66,67,68,69,70,71,72,73,74,75,76,77,78,79,80,81,82,83,84,85,86,87,88,89,90,91,92,93,94,95,96,97,98,99,100,101,102,103,104,105,106,107,108,109,110,111,112,113,114,115,116,117,118,119,120,121,122,123,124,125,126,127,128,129,130,131,132,133,134,135,136,137,138,139,140,141,142,143,144,145,146,147,148,149,150,151,152,153,154,155,156,157,158,159,160,161,162,163,164,165,166,167,168,169,170,171,172,173,174,175,176,177,178,179,180,181,182,183,184,185,186,187,188,189,190,191,192,193,194,195,196,197,198,199,200,201,202,203,204,205,206,207,208]
abbrev xW4 (s0 s1 s3 s4 : AV) : List AV := [s0,s1,oE,s3,s4,oE,oE,oE,oE,oE,oE,oE,oE,oE,oE,oE,oE,oE,oE,oE,oE,oE,oE,oE,oE,oE,oE,oE,oE,oE,oE,oE,oE,oE,oE,oE,oE,oE,oE,oE,oE,oE,oE,oE,oE,oE,oE,oE,oE,oE,oE,oE,oE,oE,oE,oE,oE,oE,oE,oE,oE,oE,oE,oE,oE,oE,oE,oE,oE,oE,oE,oE,oE,oE,oE,oE,oE,oE,oE,oE,oE,oE,oE,oE,oE,oE,oE,oE,oE,oE,oE,oE,oE,oE,oE,oE,oE,oE,oE,oE,oE,oE,oE,oE,oE,oE,oE,oE,oE,oE,oE,oE,oE,oE,oE,oE,oE,oE,oE,oE,oE,oE,oE,oE,oE,oE,oE,oE,oE,oE,oE,oE,oE,oE,oE,oE,oE,oE,oE,oE,oE,oE,oE,oE,oE,oE,oE,oE,oE,oE,oE,oE,oE,oE,oE,oE,oE,oE,oE,oE,oE,oE,oE,oE,oE,oE,oE,oE,oE,oE,oE,oE,oE,oE,oE,oE,oE,oE,oE,oE,oE,oE,oE,oE,oE,oE,oE,oE,oE,oE,oE,oE,oE,oE,oE,oE,oE,oE,oE,oE,oE,oE,oE,oE,oE,oE,oE,oE,oE]
theorem yCP (a b c d e f g h i j k l m n o p q r s t u v w x y z A B C D E F G H I J K L M N O P Q R S T U V W X Y Z a0 a1 a2 a3 a4 a5 a6 a7 a8 a9 b0 b1 b2 b3 b4 b5 b6 b7 b8 b9 c0 c1 c2 c3 c4 c5 c6 c7 c8 c9 d0 d1 d2 d3 d4 d5 d6 d7 d8 d9 e0 e1 e2 e3 e4 e5 e6 e7 e8 e9 f0 f1 f2 f3 f4 f5 f6 f7 f8 f9 g0 g1 g2 g3 g4 g5 g6 g7 g8 g9 h0 h1 h2 h3 h4 h5 h6 h7 h8 h9 i0 i1 i2 i3 i4 i5 i6 i7 i8 i9 j0 j1 j2 j3 j4 j5 j6 j7 j8 j9 k0 k1 k2 k3 k4 k5 k6 k7 k8 k9 l0 l1 l2 l3 l4 l5 l6 l7 l8 l9 m0 m1 m2 m3 m4 m5 m6 m7 m8 m9 n0 n1 n2 n3 n4 n5 n6 n7 n8 n9 o0 o1 o2 o3 o4 o5 o6 o7 o8 o9 p0 p1 p2 p3 p4 p5 p6 : AV) : xAH xW3 [a,b,c,d,e,f,g,h,i,j,k,l,m,n,o,p,q,r,s,t,u,v,w,x,y,z,A,B,C,D,E,F,G,H,I,J,K,L,M,N,O,P,Q,R,S,T,U,V,W,X,Y,Z,a0,a1,a2,a3,a4,a5,a6,a7,a8,a9,b0,b1,b2,b3,b4,b5,b6,b7,b8,b9,c0,c1,c2,c3,c4,c5,c6,c7,c8,c9,d0,d1,d2,d3,d4,d5,d6,d7,d8,d9,e0,e1,e2,e3,e4,e5,e6,e7,e8,e9,f0,f1,f2,f3,f4,f5,f6,f7,f8,f9,g0,g1,g2,g3,g4,g5,g6,g7,g8,g9,h0,h1,h2,h3,h4,h5,h6,h7,h8,h9,i0,i1,i2,i3,i4,i5,i6,i7,i8,i9,j0,j1,j2,j3,j4,j5,j6,j7,j8,j9,k0,k1,k2,k3,k4,k5,k6,k7,k8,k9,l0,l1,l2,l3,l4,l5,l6,l7,l8,l9,m0,m1,m2,m3,m4,m5,m6,m7,m8,m9,n0,n1,n2,n3,n4,n5,n6,n7,n8,n9,o0,o1,o2,o3,o4,o5,o6,o7,o8,o9,p0,p1,p2,p3,p4,p5,p6] = xW4 a b d e := by kernel_rfl
theorem yEA {prog : Nat → Option AFunc} (s0 s1 s3 s4 : AV) (H : Heap) : (lim prog).loop xW3 yFL ⟨xW4 s0 s1 s3 s4,H⟩ = xDR (lim prog) xW3 yFL (run (lim prog) xZR ⟨xW4 s0 s1 s3 s4,H⟩) := xAe _ _ _ _ (by kernel_rfl)
def xW5 : ACode :=
 .seq (oR ([oT 123 6,
 oA 124 .lss 123 (.c (oI 63))])
 (.cond (.t 124)
 .skip
 (.exit 4)))
 (.seq (.block 5 (.region [oF 127 4 5,
 oH 128 1 127,
 oT 129 6,
 oT 130 6,
 oA 131 .add 130 (.c (oI 1)),
 oO 132 (.build [oI 0,oI 0,oI 0,.int .u8 0,.int .u8 0] [(0,1,.t 129),(1,1,(.c (oI 0))),(2,1,.t 131)]),
 oT 133 6,
 oT 134 6,
 oO 135 (.build [oI 0,oI 0,oI 0,.int .u8 0,.int .u8 0] [(0,1,(.c (oI 0))),(1,1,.t 133),(2,1,.t 134)]),
 oO 136 (.bslice true [oI 0,oI 0,oI 0,.int .u8 0,.int .u8 0] 5 2 [(0,.t 132),(1,.t 135)]),
 oO 137 (.append false 5 32 (.t 128) (.t 136)),
 oF 138 4 5,
 ⟨none,.store 1 (.t 138) (.t 137),none⟩]))
 (.region [oT 125 6,
 oA 126 .add 125 (.c (oI 1)),
 oT 6 126]))
def yFM : ACode := xW5
def xW6 : List Nat := [0,1,2,3,4,7,8,9,10,11,12,13,14,15,16,17,18,19,20,21,22,23,24,25,26,27,28,29,30,31,32,33,34,35,36,37,38,39,40,41,42,43,44,45,46,47,48,49,50,51,52,53,54,55,56,57,58,59,60,61,62,63,64,65,66,67,68,69,70,71,72,73,74,75,76,77,78,79,80,81,82,83,84,85,86,87,88,89,90,91,92,93,94,95,96,97,98,99,100,101,102,103,104,105,106,107,108,109,110,111,112,113,114,115,116,117,118,119,120,121,122,123,124,125,126,127,128,129,130,131,132,133,134,135,136,137,138,139,140,141,142,143,144,145,146,147,148,149,150,151,152,153,154,155,156,157,158,159,160,161,162,163,164,165,166,167,168,169,170,171,172,173,174,175,176,177,178,179,180,181,182,183,184,185,186,187,188,189,190,191,192,193,194,195,196,197,198,199,200,201,202,203,204,205,206,207,208]
abbrev xW7 (s5 s6 : AV) : List AV := [oE,oE,oE,oE,oE,s5,s6,oE,oE,oE,oE,oE,oE,oE,oE,oE,oE,oE,oE,oE,oE,oE,oE,oE,oE,oE,oE,oE,oE,oE,oE,oE,oE,oE,oE,oE,oE,oE,oE,oE,oE,oE,oE,oE,oE,oE,oE,oE,oE,oE,oE,oE,oE,oE,oE,oE,oE,oE,oE,oE,oE,oE,oE,oE,oE,oE,oE,oE,oE,oE,oE,oE,oE,oE,oE,oE,oE,oE,oE,oE,oE,oE,oE,oE,oE,oE,oE,oE,oE,oE,oE,oE,oE,oE,oE,oE,oE,oE,oE,oE,oE,oE,oE,oE,oE,oE,oE,oE,oE,oE,oE,oE,oE,oE,oE,oE,oE,oE,oE,oE,oE,oE,oE,oE,oE,oE,oE,oE,oE,oE,oE,oE,oE,oE,oE,oE,oE,oE,oE,oE,oE,oE,oE,oE,oE,oE,oE,oE,oE,oE,oE,oE,oE,oE,oE,oE,oE,oE,oE,oE,oE,oE,oE,oE,oE,oE,oE,oE,oE,oE,oE,oE,oE,oE,oE,oE,oE,oE,oE,oE,oE,oE,oE,oE,oE,oE,oE,oE,oE,oE,oE,oE,oE,oE,oE,oE,oE,oE,oE,oE,oE,oE,oE,oE,oE,oE,oE,oE,oE]
theorem xZS (a b c d e f g h i j k l m n o p q r s t u v w x y z A B C D E F G H I J K L M N O P Q R S T U V W X Y Z a0 a1 a2 a3 a4 a5 a6 a7 a8 a9 b0 b1 b2 b3 b4 b5 b6 b7 b8 b9 c0 c1 c2 c3 c4 c5 c6 c7 c8 c9 d0 d1 d2 d3 d4 d5 d6 d7 d8 d9 e0 e1 e2 e3 e4 e5 e6 e7 e8 e9 f0 f1 f2 f3 f4 f5 f6 f7 f8 f9 g0 g1 g2 g3 g4 g5 g6 g7 g8 g9 h0 h1 h2 h3 h4 h5 h6 h7 h8 h9 i0 i1 i2 i3 i4 i5 i6 i7 i8 i9 j0 j1 j2 j3 j4 j5 j6 j7 j8 j9 k0 k1 k2 k3 k4 k5 k6 k7 k8 k9 l0 l1 l2 l3 l4 l5 l6 l7 l8 l9 m0 m1 m2 m3 m4 m5 m6 m7 m8 m9 n0 n1 n2 n3 n4 n5 n6 n7 n8 n9 o0 o1 o2 o3 o4 o5 o6 o7 o8 o9 p0 p1 p2 p3 p4 p5 p6 : AV) : xAH xW6 [a,b,c,d,e,f,g,h,i,j,k,l,m,n,o,p,q,r,s,t,u,v,w,x,y,z,A,B,C,D,E,F,G,H,I,J,K,L,M,N,O,P,Q,R,S,T,U,V,W,X,Y,Z,a0,a1,a2,a3,a4,a5,a6,a7,a8,a9,b0,b1,b2,b3,b4,b5,b6,b7,b8,b9,c0,c1,c2,c3,c4,c5,c6,c7,c8,c9,d0,d1,d2,d3,d4,d5,d6,d7,d8,d9,e0,e1,e2,e3,e4,e5,e6,e7,e8,e9,f0,f1,f2,f3,f4,f5,f6,f7,f8,f9,g0,g1,g2,g3,g4,g5,g6,g7,g8,g9,h0,h1,h2,h3,h4,h5,h6,h7,h8,h9,i0,i1,i2,i3,i4,i5,i6,i7,i8,i9,j0,j1,j2,j3,j4,j5,j6,j7,j8,j9,k0,k1,k2,k3,k4,k5,k6,k7,k8,k9,l0,l1,l2,l3,l4,l5,l6,l7,l8,l9,m0,m1,m2,m3,m4,m5,m6,m7,m8,m9,n0,n1,n2,n3,n4,n5,n6,n7,n8,n9,o0,o1,o2,o3,o4,o5,o6,o7,o8,o9,p0,p1,p2,p3,p4,p5,p6] = xW7 f g := by kernel_rfl
theorem yCQ {prog : Nat → Option AFunc} (s5 s6 : AV) (H : Heap) : (lim prog).loop xW6 yFM ⟨xW7 s5 s6,H⟩ = xDR (lim prog) xW6 yFM (run (lim prog) xW5 ⟨xW7 s5 s6,H⟩) := xAe _ _ _ _ (by kernel_rfl)
def xZT : ACode :=
 .seq (oR ([oF 141 4 7,
 oH 142 1 141,
 oN 143 142,
 oA 144 .lss 143 (.c (oI 512))])
 (.cond (.t 144)
 .skip
 (.exit 6)))
 (.block 7 (.region [oF 145 4 7,
 oH 146 1 145,
 oO 147 (.build [oI 0,oI 0,oI 0,.int .u8 0,.int .u8 0] [(0,1,(.c (oI 5))),(1,1,(.c (oI 5))),(2,1,(.c (oI 9)))]),
 oO 148 (.bslice true [oI 0,oI 0,oI 0,.int .u8 0,.int .u8 0] 5 1 [(0,.t 147)]),
 oO 149 (.append false 5 32 (.t 146) (.t 148)),
 oF 150 4 7,
 ⟨none,.store 1 (.t 150) (.t 149),none⟩]))
def yFN : ACode := xZT
def xW8 : List Nat := [0,1,2,3,4,6,8,9,10,11,12,13,14,15,16,17,18,19,20,21,22,23,24,25,26,27,28,29,30,31,32,33,34,35,36,37,38,39,40,41,42,43,44,45,46,47,48,49,50,51,52,53,54,55,56,57,58,59,60,61,62,63,64,65,66,67,68,69,70,71,72,73,74,75,76,77,78,79,80,81,82,83,84,85,86,87,88,89,90,91,92,93,94,95,96,97,98,99,100,101,102,103,104,105,106,107,108,109,110,111,112,113,114,115,116,117,118,119,120,121,122,123,124,125,126,127,128,129,130,131,132,133,134,135,136,137,138,139,140,141,142,143,144,145,146,147,148,149,150,151,152,153,154,155,156,157,158,159,160,161,162,163,164,165,166,167,168,169,170,171,172,173,174,175,176,177,178,179,180,181,182,183,184,185,186,187,188,189,190,191,192,193,194,195,196,197,198,199,200,201,202,203,204,205,206,207,208]
abbrev xW9 (s5 s7 : AV) : List AV := [oE,oE,oE,oE,oE,s5,oE,s7,oE,oE,oE,oE,oE,oE,oE,oE,oE,oE,oE,oE,oE,oE,oE,oE,oE,oE,oE,oE,oE,oE,oE,oE,oE,oE,oE,oE,oE,oE,oE,oE,oE,oE,oE,oE,oE,oE,oE,oE,oE,oE,oE,oE,oE,oE,oE,oE,oE,oE,oE,oE,oE,oE,oE,oE,oE,oE,oE,oE,oE,oE,oE,oE,oE,oE,oE,oE,oE,oE,oE,oE,oE,oE,oE,oE,oE,oE,oE,oE,oE,oE,oE,oE,oE,oE,oE,oE,oE,oE,oE,oE,oE,oE,oE,oE,oE,oE,oE,oE,oE,oE,oE,oE,oE,oE,oE,oE,oE,oE,oE,oE,oE,oE,oE,oE,oE,oE,oE,oE,oE,oE,oE,oE,oE,oE,oE,oE,oE,oE,oE,oE,oE,oE,oE,oE,oE,oE,oE,oE,oE,oE,oE,oE,oE,oE,oE,oE,oE,oE,oE,oE,oE,oE,oE,oE,oE,oE,oE,oE,oE,oE,oE,oE,oE,oE,oE,oE,oE,oE,oE,oE,oE,oE,oE,oE,oE,oE,oE,oE,oE,oE,oE,oE,oE,oE,oE,oE,oE,oE,oE,oE,oE,oE,oE,oE,oE,oE,oE,oE,oE]
theorem yCR (a b c d e f g h i j k l m n o p q r s t u v w x y z A B C D E F G H I J K L M N O P Q R S T U V W X Y Z a0 a1 a2 a3 a4 a5 a6 a7 a8 a9 b0 b1 b2 b3 b4 b5 b6 b7 b8 b9 c0 c1 c2 c3 c4 c5 c6 c7 c8 c9 d0 d1 d2 d3 d4 d5 d6 d7 d8 d9 e0 e1 e2 e3 e4 e5 e6 e7 e8 e9 f0 f1 f2 f3 f4 f5 f6 f7 f8 f9 g0 g1 g2 g3 g4 g5 g6 g7 g8 g9 h0 h1 h2 h3 h4 h5 h6 h7 h8 h9 i0 i1 i2 i3 i4 i5 i6 i7 i8 i9 j0 j1 j2 j3 j4 j5 j6 j7 j8 j9 k0 k1 k2 k3 k4 k5 k6 k7 k8 k9 l0 l1 l2 l3 l4 l5 l6 l7 l8 l9 m0 m1 m2 m3 m4 m5 m6 m7 m8 m9 n0 n1 n2 n3 n4 n5 n6 n7 n8 n9 o0 o1 o2 o3 o4 o5 o6 o7 o8 o9 p0 p1 p2 p3 p4 p5 p6 : AV) : xAH xW8 [a,b,c,d,e,f,g,h,i,j,k,l,m,n,o,p,q,r,s,t,u,v,w,x,y,z,A,B,C,D,E,F,G,H,I,J,K,L,M,N,O,P,Q,R,S,T,U,V,W,X,Y,Z,a0,a1,a2,a3,a4,a5,a6,a7,a8,a9,b0,b1,b2,b3,b4,b5,b6,b7,b8,b9,c0,c1,c2,c3,c4,c5,c6,c7,c8,c9,d0,d1,d2,d3,d4,d5,d6,d7,d8,d9,e0,e1,e2,e3,e4,e5,e6,e7,e8,e9,f0,f1,f2,f3,f4,f5,f6,f7,f8,f9,g0,g1,g2,g3,g4,g5,g6,g7,g8,g9,h0,h1,h2,h3,h4,h5,h6,h7,h8,h9,i0,i1,i2,i3,i4,i5,i6,i7,i8,i9,j0,j1,j2,j3,j4,j5,j6,j7,j8,j9,k0,k1,k2,k3,k4,k5,k6,k7,k8,k9,l0,l1,l2,l3,l4,l5,l6,l7,l8,l9,m0,m1,m2,m3,m4,m5,m6,m7,m8,m9,n0,n1,n2,n3,n4,n5,n6,n7,n8,n9,o0,o1,o2,o3,o4,o5,o6,o7,o8,o9,p0,p1,p2,p3,p4,p5,p6] = xW9 f h := by kernel_rfl
theorem yEB {prog : Nat → Option AFunc} (s5 s7 : AV) (H : Heap) : (lim prog).loop xW8 yFN ⟨xW9 s5 s7,H⟩ = xDR (lim prog) xW8 yFN (run (lim prog) xZT ⟨xW9 s5 s7,H⟩) := xAe _ _ _ _ (by kernel_rfl)
def a5 : AFunc := ⟨209,
 oR ([oM 0 (.c (.bool false))])
 (oR ([oM 1 (.c (oS))])
 (.seq (oR ([oM 2 (.c (.int .i64 (-1)))])
 (.block 0 (.loop xW1 yFK)))
 (oR ([oO 68 (.build [.int .u8 0,oI 0,oI 0] [(0,1,(.c (.int .u8 1))),(1,1,(.c (.int .i64 (-1)))),(2,1,(.c (.int .i64 (-1))))]),
 oO 69 (.bslice true [.int .u8 0,oI 0,oI 0] 3 1 [(0,.t 68)]),
 oT 3 69])
 (.seq (oR ([oM 4 (.c (oI 0))])
 (.block 2 (.loop xW3 yFL)))
 (oR ([oO 120 (.bslice true [oI 0] 1 1 [(0,(.c (oI 0)))]),
 oO 121 (.bslice true [oI 0] 1 1 [(0,(.c (oI 63)))]),
 oO 122 (.build [oI 0,oI 0,oS,oS,oS] [(0,1,(.c (oI 0))),(1,1,(.c (oI 64))),(2,1,.t 120),(3,1,.t 121)]),
 oX 5 (.c (.agg [oI 0,oI 0,oS,oS,oS])),
 ⟨none,.store 5 (.t 5) (.t 122),none⟩])
 (.seq (oR ([oM 6 (.c (oI 0))])
 (.block 4 (.loop xW6 yFM)))
 (oR ([oG 139 5 5,
 oO 140 (.ocall 33 [.t 139]),
 oX 7 (.c (.agg [oI 0,oI 0,oS,oS,oS])),
 ⟨none,.store 5 (.t 7) (.t 140),none⟩])
 (.seq (.block 6 (.loop xW8 yFN))
 (oR ([oG 151 5 7,
 oO 152 (.ocall 33 [.t 151]),
 oX 8 (.c (.agg [oI 0,oI 0,oS,oS,oS])),
 ⟨none,.store 5 (.t 8) (.t 152),none⟩])
 (oR ([oF 153 4 8,
 oH 154 1 153,
 oO 155 (.build [oI 0,oI 0,oI 0,.int .u8 0,.int .u8 0] []),
 oO 156 (.bslice true [oI 0,oI 0,oI 0,.int .u8 0,.int .u8 0] 5 1 [(0,.t 155)]),
 oO 157 (.append false 5 32 (.t 154) (.t 156)),
 oF 158 4 8,
 ⟨none,.store 1 (.t 158) (.t 157),none⟩])
 (oR ([oO 159 (.bslice true [oI 0] 1 2 [(0,(.c (oI 0))),(1,(.c (oI 31)))]),
 oF 160 4 5,
 oH 161 1 160,
 oO 162 (.slice 5 (.t 161) none (some (.c (oI 60))) none),
 oO 163 (.build [oI 0,oI 0,oS,oS,oS] [(0,1,(.c (oI 0))),(1,1,(.c (oI 32))),(2,1,.t 159),(4,1,.t 162)]),
 oX 9 (.c (.agg [oI 0,oI 0,oS,oS,oS])),
 ⟨none,.store 5 (.t 9) (.t 163),none⟩])
 (oR ([oO 164 (.build [.int .u8 0,oI 0,oI 0] [(1,1,(.c (oI 1))),(2,1,(.c (.int .i64 (-1))))]),
 oO 165 (.build [.int .u8 0,oI 0,oI 0] [(1,1,(.c (oI 2))),(2,1,(.c (.int .i64 (-1))))]),
 oO 166 (.build [.int .u8 0,oI 0,oI 0] [(1,1,(.c (.int .i64 (-1)))),(2,1,(.c (.int .i64 (-1))))]),
 oO 167 (.bslice true [.int .u8 0,oI 0,oI 0] 3 3 [(0,.t 164),(1,.t 165),(2,.t 166)]),
 oT 10 167])
 (oR ([oG 168 5 5,
 oT 169 10,
 oO 170 (.call 3 [.t 168,.t 169]),
 oT 171 170,
 ⟨some 172,.load true 5 (.t 7),some (171,true)⟩,
 ⟨some 173,.mov (.t 10),some (171,true)⟩,
 ⟨some 174,.call 3 [.t 172,.t 173],some (171,true)⟩,
 oO 175 (.pick (.t 171) (.t 174) (.c (.bool false))),
 oT 176 175,
 ⟨some 177,.load true 5 (.t 8),some (176,true)⟩,
 ⟨some 178,.mov (.t 10),some (176,true)⟩,
 ⟨some 179,.call 3 [.t 177,.t 178],some (176,true)⟩,
 oO 180 (.pick (.t 176) (.t 179) (.c (.bool false))),
 oT 181 180,
 ⟨some 182,.load true 5 (.t 9),some (181,true)⟩,
 ⟨some 183,.load true 5 (.t 9),some (181,true)⟩,
 ⟨some 184,.call 4 [.t 182,.t 183],some (181,true)⟩,
 oO 185 (.pick (.t 181) (.t 184) (.c (.bool false))),
 oT 186 185,
 ⟨some 187,.load true 5 (.t 9),some (186,true)⟩,
 ⟨some 188,.load true 5 (.t 5),some (186,true)⟩,
 ⟨some 189,.call 4 [.t 187,.t 188],some (186,true)⟩,
 oO 190 (.pick (.t 186) (.t 189) (.c (.bool false))),
 oT 191 190,
 ⟨some 192,.build [oI 0,oI 0,oS,oS,oS] [],some (191,true)⟩,
 ⟨some 193,.load true 5 (.t 7),some (191,true)⟩,
 ⟨some 194,.call 4 [.t 192,.t 193],some (191,true)⟩,
 oO 195 (.pick (.t 191) (.t 194) (.c (.bool false))),
 oT 196 195,
 ⟨some 197,.build [oI 0,oI 0,oS,oS,oS] [],some (196,true)⟩,
 ⟨some 198,.call 3 [.t 197,(.c (oS))],some (196,true)⟩,
 oO 199 (.pick (.t 196) (.t 198) (.c (.bool false))),
 oT 200 199,
 ⟨some 201,.build [oI 0,oI 0,oS,oS,oS] [(1,1,(.c (oI 65)))],some (200,true)⟩,
 ⟨some 202,.call 3 [.t 201,(.c (oS))],some (200,true)⟩,
 oO 203 (.pick (.t 200) (.t 202) (.c (.bool false))),
 oT 204 203,
 oO 205 (.pick (.t 204) (.c (.bool true)) (.c (.bool false))),
 oT 206 205,
 ⟨some 207,.call 29 [],some (206,true)⟩,
 oO 208 (.pick (.t 206) (.t 207) (.c (.bool false))),
 oT 0 208])
 .ret))))))))))))),
 [.tmp 0]⟩
def a12 : AFunc := ⟨29,
 oR ([oX 1 (.t 0),
 oX 2 (.c (.agg [oI 0,oI 0,oS,oS,oS]))])
 (oR ([oF 3 2 1,
 oH 4 1 3,
 oF 5 2 1,
 oH 6 1 5,
 oN 7 6,
 oO 8 (.mini (.t 7) (.c (oI 70))),
 oO 9 (.slice 1 (.t 4) none (some (.t 8)) none),
 oF 10 2 1,
 ⟨none,.store 1 (.t 10) (.t 9),none⟩])
 (oR ([oF 11 3 1,
 oH 12 1 11,
 oF 13 3 1,
 oH 14 1 13,
 oN 15 14,
 oO 16 (.mini (.t 15) (.c (oI 70))),
 oO 17 (.slice 1 (.t 12) none (some (.t 16)) none),
 oF 18 3 1,
 ⟨none,.store 1 (.t 18) (.t 17),none⟩])
 (oR ([oF 19 4 1,
 oH 20 1 19,
 oF 21 4 1,
 oH 22 1 21,
 oN 23 22,
 oO 24 (.mini (.t 23) (.c (oI 520))),
 oO 25 (.slice 5 (.t 20) none (some (.t 24)) none),
 oF 26 4 1,
 ⟨none,.store 1 (.t 26) (.t 25),none⟩])
 (oR ([oG 27 5 1,
 oO 28 (.call 33 [.t 27]),
 ⟨none,.store 5 (.t 2) (.t 28),none⟩])
 .ret)))),
 [.cell 2 true 5]⟩
def a13 : AFunc := ⟨5,
 oR ([oM 2 (.c (oS))])
 (oR ([oT 3 0,
 oO 4 (.append false 3 24 (.c (oS)) (.t 3)),
 oT 2 4])
 .ret),
 [.tmp 2]⟩
def xM4 : ACode :=
 oR ([oA 38 .lss 37 (.c (oI 2))])
 (.seq (.cond (.t 38)
 .skip
 (.exit 1))
 (.seq (.block 2 (oR ([oO 39 (.idx false 1 2 (.t 36) (.t 37)),
 oT 4 39])
 (oR ([oT 40 4,
 oF 41 1 1,
 oH 42 1 41,
 oO 43 (.call 44 [.t 40,.t 42]),
 oT 5 43])
 (oR ([oT 44 5,
 oA 45 .neq 44 (.c (oI 0))])
 (.cond (.t 45)
 (oR ([oT 46 5,
 oT 2 46])
 .ret)
 .skip)))))
 (.region [oA 47 .add 37 (.c (oI 1)),
 oT 37 47])))
def xXa : ACode := xM4
def xOW : List Nat := [0,3,4,5,6,7,8,9,10,11,12,13,14,15,16,17,18,19,20,21,22,23,24,25,26,27,28,29,30,31,32,33,34,35,38,39,40,41,42,43,44,45,46,47,48,49,50,51,52,53,54,55,56,57,58,59,60,61,62,63,64,65,66,67,68,69,70,71,72,73,74,75,76,77,78,79,80,81,82,83,84,85,86]
abbrev xM5 (s1 s2 s36 s37 : AV) : List AV := [oE,s1,s2,oE,oE,oE,oE,oE,oE,oE,oE,oE,oE,oE,oE,oE,oE,oE,oE,oE,oE,oE,oE,oE,oE,oE,oE,oE,oE,oE,oE,oE,oE,oE,oE,oE,s36,s37,oE,oE,oE,oE,oE,oE,oE,oE,oE,oE,oE,oE,oE,oE,oE,oE,oE,oE,oE,oE,oE,oE,oE,oE,oE,oE,oE,oE,oE,oE,oE,oE,oE,oE,oE,oE,oE,oE,oE,oE,oE,oE,oE,oE,oE,oE,oE,oE,oE]
theorem xMg (a b c d e f g h i j k l m n o p q r s t u v w x y z A B C D E F G H I J K L M N O P Q R S T U V W X Y Z a0 a1 a2 a3 a4 a5 a6 a7 a8 a9 b0 b1 b2 b3 b4 b5 b6 b7 b8 b9 c0 c1 c2 c3 c4 c5 c6 c7 c8 c9 d0 d1 d2 d3 d4 : AV) : xAH xOW [a,b,c,d,e,f,g,h,i,j,k,l,m,n,o,p,q,r,s,t,u,v,w,x,y,z,A,B,C,D,E,F,G,H,I,J,K,L,M,N,O,P,Q,R,S,T,U,V,W,X,Y,Z,a0,a1,a2,a3,a4,a5,a6,a7,a8,a9,b0,b1,b2,b3,b4,b5,b6,b7,b8,b9,c0,c1,c2,c3,c4,c5,c6,c7,c8,c9,d0,d1,d2,d3,d4] = xM5 b c K L := by kernel_rfl
theorem xOX {prog : Nat → Option AFunc} (s1 s2 s36 s37 : AV) (H : Heap) : (lim prog).loop xOW xXa ⟨xM5 s1 s2 s36 s37,H⟩ = xDR (lim prog) xOW xXa (run (lim prog) xM4 ⟨xM5 s1 s2 s36 s37,H⟩) := xAe _ _ _ _ (by kernel_rfl)
def xM6 : ACode :=
 oR ([oB 52 .lss 51 50])
 (.seq (.cond (.t 52)
 .skip
 (.exit 3))
 (.seq (.block 4 (oR ([oO 53 (.iaddr 5 (.t 49) (.t 51)),
 oG 54 5 53,
 oX 7 (.c (.agg [oI 0,oI 0,oI 0,.int .u8 0,.int .u8 0])),
 ⟨none,.store 5 (.t 7) (.t 54),none⟩])
 (.seq (oR ([oF 55 0 7,
 oH 56 1 55,
 oF 57 1 7,
 oH 58 1 57,
 oF 59 2 7,
 oH 60 1 59,
 oO 61 (.mm false [.t 56,.t 58,.t 60]),
 oA 62 .lss 61 (.c (oI 0)),
 oT 63 62,
 ⟨some 64,.faddr 0 (.t 7),some (63,false)⟩,
 ⟨some 65,.load false 1 (.t 64),some (63,false)⟩,
 ⟨some 66,.faddr 1 (.t 7),some (63,false)⟩,
 ⟨some 67,.load false 1 (.t 66),some (63,false)⟩,
 ⟨some 68,.faddr 2 (.t 7),some (63,false)⟩,
 ⟨some 69,.load false 1 (.t 68),some (63,false)⟩,
 ⟨some 70,.mm true [.t 65,.t 67,.t 69],some (63,false)⟩,
 ⟨some 71,.faddr 1 (.t 1),some (63,false)⟩,
 ⟨some 72,.load false 1 (.t 71),some (63,false)⟩,
 ⟨some 73,.bin .geq (.t 70) (.t 72),some (63,false)⟩,
 oO 74 (.pick (.t 63) (.c (.bool true)) (.t 73))])
 (.cond (.t 74)
 (oR ([oM 2 (.c (oI 8))])
 .ret)
 .skip))
 (oR ([oF 75 3 7,
 oH 76 1 75,
 oF 77 4 7,
 oH 78 1 77,
 oO 79 (.build [.int .u8 0,.int .u8 0] [(0,1,.t 76),(1,1,.t 78)]),
 oF 80 0 1,
 oH 81 1 80,
 oO 82 (.call 45 [.t 79,.t 81]),
 oT 8 82])
 (oR ([oT 83 8,
 oA 84 .neq 83 (.c (oI 0))])
 (.cond (.t 84)
 (oR ([oT 85 8,
 oT 2 85])
 .ret)
 .skip))))))
 (.region [oA 86 .add 51 (.c (oI 1)),
 oT 51 86])))
def xZU : ACode := xM6
def xQ0 : List Nat := [0,3,4,5,6,7,8,9,10,11,12,13,14,15,16,17,18,19,20,21,22,23,24,25,26,27,28,29,30,31,32,33,34,35,36,37,38,39,40,41,42,43,44,45,46,47,48,52,53,54,55,56,57,58,59,60,61,62,63,64,65,66,67,68,69,70,71,72,73,74,75,76,77,78,79,80,81,82,83,84,85,86]
abbrev xOY (s1 s2 s49 s50 s51 : AV) : List AV := [oE,s1,s2,oE,oE,oE,oE,oE,oE,oE,oE,oE,oE,oE,oE,oE,oE,oE,oE,oE,oE,oE,oE,oE,oE,oE,oE,oE,oE,oE,oE,oE,oE,oE,oE,oE,oE,oE,oE,oE,oE,oE,oE,oE,oE,oE,oE,oE,oE,s49,s50,s51,oE,oE,oE,oE,oE,oE,oE,oE,oE,oE,oE,oE,oE,oE,oE,oE,oE,oE,oE,oE,oE,oE,oE,oE,oE,oE,oE,oE,oE,oE,oE,oE,oE,oE,oE]
theorem xM7 (a b c d e f g h i j k l m n o p q r s t u v w x y z A B C D E F G H I J K L M N O P Q R S T U V W X Y Z a0 a1 a2 a3 a4 a5 a6 a7 a8 a9 b0 b1 b2 b3 b4 b5 b6 b7 b8 b9 c0 c1 c2 c3 c4 c5 c6 c7 c8 c9 d0 d1 d2 d3 d4 : AV) : xAH xQ0 [a,b,c,d,e,f,g,h,i,j,k,l,m,n,o,p,q,r,s,t,u,v,w,x,y,z,A,B,C,D,E,F,G,H,I,J,K,L,M,N,O,P,Q,R,S,T,U,V,W,X,Y,Z,a0,a1,a2,a3,a4,a5,a6,a7,a8,a9,b0,b1,b2,b3,b4,b5,b6,b7,b8,b9,c0,c1,c2,c3,c4,c5,c6,c7,c8,c9,d0,d1,d2,d3,d4] = xOY b c X Y Z := by kernel_rfl
theorem xQ1 {prog : Nat → Option AFunc} (s1 s2 s49 s50 s51 : AV) (H : Heap) : (lim prog).loop xQ0 xZU ⟨xOY s1 s2 s49 s50 s51,H⟩ = xDR (lim prog) xQ0 xZU (run (lim prog) xM6 ⟨xOY s1 s2 s49 s50 s51,H⟩) := xAe _ _ _ _ (by kernel_rfl)
def a14 : AFunc := ⟨87,
 oR ([oX 1 (.t 0),
 oM 2 (.c (oI 0))])
 (.seq (.block 0 (oR ([oF 10 0 1,
 oH 11 1 10,
 oA 12 .lss 11 (.c (oI 0)),
 oT 13 12,
 ⟨some 14,.faddr 0 (.t 1),some (13,false)⟩,
 ⟨some 15,.load false 1 (.t 14),some (13,false)⟩,
 ⟨some 16,.bin .gtr (.t 15) (.c (oI 3)),some (13,false)⟩,
 oO 17 (.pick (.t 13) (.c (.bool true)) (.t 16)),
 oT 9 17])
 (.cond (.t 9)
 (oR ([oM 2 (.c (oI 7))])
 .ret)
 (oR ([oF 19 1 1,
 oH 20 1 19,
 oA 21 .lss 20 (.c (oI 0)),
 oT 18 21])
 (.cond (.t 18)
 (oR ([oM 2 (.c (oI 1))])
 .ret)
 (oR ([oF 23 1 1,
 oH 24 1 23,
 oA 25 .gtr 24 (.c (oI 64)),
 oT 26 25,
 ⟨some 27,.faddr 4 (.t 1),some (26,false)⟩,
 ⟨some 28,.load false 1 (.t 27),some (26,false)⟩,
 ⟨some 29,.len (.t 28),some (26,false)⟩,
 ⟨some 30,.bin .gtr (.t 29) (.c (oI 512)),some (26,false)⟩,
 oO 31 (.pick (.t 26) (.c (.bool true)) (.t 30)),
 oT 22 31])
 (.cond (.t 22)
 (oR ([oM 2 (.c (oI 4))])
 .ret)
 .skip)))))))
 (.seq (oR ([oF 32 2 1,
 oH 33 1 32,
 oF 34 3 1,
 oH 35 1 34,
 oO 36 (.build [oS,oS] [(0,1,.t 33),(1,1,.t 35)]),
 oM 37 (.c (oI 0))])
 (.block 1 (.loop xOW xXa)))
 (.seq (oR ([oF 48 4 1,
 oH 49 1 48,
 oN 50 49,
 oM 51 (.c (oI 0))])
 (.block 3 (.loop xQ0 xZU)))
 (oR ([oM 2 (.c (oI 0))])
 .ret)))),
 [.tmp 2]⟩
def xJQ : ACode :=
 .seq (oR ([oT 43 5,
 oF 44 4 1,
 oH 45 1 44,
 oN 46 45,
 oB 47 .lss 43 46])
 (.cond (.t 47)
 .skip
 (.exit 0)))
 (.seq (.block 1 (oR ([oF 50 4 1,
 oH 51 1 50,
 oT 52 5,
 oO 53 (.iaddr 5 (.t 51) (.t 52)),
 oG 54 5 53,
 oX 6 (.c (.agg [oI 0,oI 0,oI 0,.int .u8 0,.int .u8 0])),
 ⟨none,.store 5 (.t 6) (.t 54),none⟩])
 (.seq (oR ([oF 55 0 6,
 oH 56 1 55,
 oA 57 .lss 56 (.c (oI 0)),
 oT 58 57,
 ⟨some 59,.faddr 0 (.t 6),some (58,false)⟩,
 ⟨some 60,.load false 1 (.t 59),some (58,false)⟩,
 ⟨some 61,.faddr 1 (.t 1),some (58,false)⟩,
 ⟨some 62,.load false 1 (.t 61),some (58,false)⟩,
 ⟨some 63,.bin .geq (.t 60) (.t 62),some (58,false)⟩,
 oO 64 (.pick (.t 58) (.c (.bool true)) (.t 63)),
 oT 65 64,
 ⟨some 66,.faddr 1 (.t 6),some (65,false)⟩,
 ⟨some 67,.load false 1 (.t 66),some (65,false)⟩,
 ⟨some 68,.bin .lss (.t 67) (.c (oI 0)),some (65,false)⟩,
 oO 69 (.pick (.t 65) (.c (.bool true)) (.t 68)),
 oT 70 69,
 ⟨some 71,.faddr 1 (.t 6),some (70,false)⟩,
 ⟨some 72,.load false 1 (.t 71),some (70,false)⟩,
 ⟨some 73,.faddr 1 (.t 1),some (70,false)⟩,
 ⟨some 74,.load false 1 (.t 73),some (70,false)⟩,
 ⟨some 75,.bin .geq (.t 72) (.t 74),some (70,false)⟩,
 oO 76 (.pick (.t 70) (.c (.bool true)) (.t 75)),
 oT 77 76,
 ⟨some 78,.faddr 2 (.t 6),some (77,false)⟩,
 ⟨some 79,.load false 1 (.t 78),some (77,false)⟩,
 ⟨some 80,.bin .lss (.t 79) (.c (oI 0)),some (77,false)⟩,
 oO 81 (.pick (.t 77) (.c (.bool true)) (.t 80)),
 oT 82 81,
 ⟨some 83,.faddr 2 (.t 6),some (82,false)⟩,
 ⟨some 84,.load false 1 (.t 83),some (82,false)⟩,
 ⟨some 85,.faddr 1 (.t 1),some (82,false)⟩,
 ⟨some 86,.load false 1 (.t 85),some (82,false)⟩,
 ⟨some 87,.bin .geq (.t 84) (.t 86),some (82,false)⟩,
 oO 88 (.pick (.t 82) (.c (.bool true)) (.t 87))])
 (.cond (.t 88)
 (oR ([oM 2 (.c (oI 8))])
 .ret)
 .skip))
 (.seq (.seq (.draw 14 [oF 89 3 6,
 oH 90 1 89,
 oO 91 (.conv .i64 (.t 90)),
 oF 92 0 1,
 oH 93 1 92,
 oO 94 (.bin .shl (.c (oI 1)) (.t 93)),
 oB 95 .geq 91 94,
 oT 96 95,
 ⟨some 97,.faddr 4 (.t 6),some (96,false)⟩,
 ⟨some 98,.load false 1 (.t 97),some (96,false)⟩,
 ⟨some 99,.conv .i64 (.t 98),some (96,false)⟩,
 ⟨some 100,.faddr 0 (.t 1),some (96,false)⟩,
 ⟨some 101,.load false 1 (.t 100),some (96,false)⟩,
 ⟨some 102,.bin .shl (.c (oI 1)) (.t 101),some (96,false)⟩,
 ⟨some 103,.bin .geq (.t 99) (.t 102),some (96,false)⟩,
 oO 104 (.pick (.t 96) (.c (.bool true)) (.t 103))])
 (.cond (.t 104)
 (oR ([oM 2 (.c (oI 7))])
 .ret)
 .skip))
 (oR ([oF 105 3 6,
 oH 106 1 105,
 oF 107 4 6,
 oH 108 1 107,
 oB 109 .and 106 108,
 oA 110 .neq 109 (.c (.int .u8 0))])
 (.cond (.t 110)
 (oR ([oM 2 (.c (oI 2))])
 .ret)
 .skip))))))
 (.region [oT 48 5,
 oA 49 .add 48 (.c (oI 1)),
 oT 5 49]))
def xZV : ACode := xJQ
def xQ2 : List Nat := [0,3,4,6,7,8,9,10,11,12,13,14,15,16,17,18,19,20,21,22,23,24,25,26,27,28,29,30,31,32,33,34,35,36,37,38,39,40,41,42,43,44,45,46,47,48,49,50,51,52,53,54,55,56,57,58,59,60,61,62,63,64,65,66,67,68,69,70,71,72,73,74,75,76,77,78,79,80,81,82,83,84,85,86,87,88,89,90,91,92,93,94,95,96,97,98,99,100,101,102,103,104,105,106,107,108,109,110]
abbrev xOZ (s1 s2 s5 : AV) : List AV := [oE,s1,s2,oE,oE,s5,oE,oE,oE,oE,oE,oE,oE,oE,oE,oE,oE,oE,oE,oE,oE,oE,oE,oE,oE,oE,oE,oE,oE,oE,oE,oE,oE,oE,oE,oE,oE,oE,oE,oE,oE,oE,oE,oE,oE,oE,oE,oE,oE,oE,oE,oE,oE,oE,oE,oE,oE,oE,oE,oE,oE,oE,oE,oE,oE,oE,oE,oE,oE,oE,oE,oE,oE,oE,oE,oE,oE,oE,oE,oE,oE,oE,oE,oE,oE,oE,oE,oE,oE,oE,oE,oE,oE,oE,oE,oE,oE,oE,oE,oE,oE,oE,oE,oE,oE,oE,oE,oE,oE,oE,oE]
theorem xJR (a b c d e f g h i j k l m n o p q r s t u v w x y z A B C D E F G H I J K L M N O P Q R S T U V W X Y Z a0 a1 a2 a3 a4 a5 a6 a7 a8 a9 b0 b1 b2 b3 b4 b5 b6 b7 b8 b9 c0 c1 c2 c3 c4 c5 c6 c7 c8 c9 d0 d1 d2 d3 d4 d5 d6 d7 d8 d9 e0 e1 e2 e3 e4 e5 e6 e7 e8 e9 f0 f1 f2 f3 f4 f5 f6 f7 f8 : AV) : xAH xQ2 [a,b,c,d,e,f,g,h,i,j,k,l,m,n,o,p,q,r,s,t,u,v,w,x,y,z,A,B,C,D,E,F,G,H,I,J,K,L,M,N,O,P,Q,R,S,T,U,V,W,X,Y,Z,a0,a1,a2,a3,a4,a5,a6,a7,a8,a9,b0,b1,b2,b3,b4,b5,b6,b7,b8,b9,c0,c1,c2,c3,c4,c5,c6,c7,c8,c9,d0,d1,d2,d3,d4,d5,d6,d7,d8,d9,e0,e1,e2,e3,e4,e5,e6,e7,e8,e9,f0,f1,f2,f3,f4,f5,f6,f7,f8] = xOZ b c f := by kernel_rfl
theorem xLc {prog : Nat → Option AFunc} (s1 s2 s5 : AV) (H : Heap) : (lim prog).loop xQ2 xZV ⟨xOZ s1 s2 s5,H⟩ = xDR (lim prog) xQ2 xZV (run (lim prog) xJQ ⟨xOZ s1 s2 s5,H⟩) := xAe _ _ _ _ (by kernel_rfl)
def a15 : AFunc := ⟨111,
 oR ([oX 1 (.t 0),
 oM 2 (.c (oI 0))])
 (.seq (oR ([oF 7 0 1,
 oH 8 1 7,
 oA 9 .lss 8 (.c (oI 0)),
 oT 10 9,
 ⟨some 11,.faddr 0 (.t 1),some (10,false)⟩,
 ⟨some 12,.load false 1 (.t 11),some (10,false)⟩,
 ⟨some 13,.bin .gtr (.t 12) (.c (oI 3)),some (10,false)⟩,
 oO 14 (.pick (.t 10) (.c (.bool true)) (.t 13))])
 (.cond (.t 14)
 (oR ([oM 2 (.c (oI 7))])
 .ret)
 .skip))
 (.seq (oR ([oF 15 1 1,
 oH 16 1 15,
 oA 17 .lss 16 (.c (oI 0))])
 (.cond (.t 17)
 (oR ([oM 2 (.c (oI 1))])
 .ret)
 .skip))
 (.seq (oR ([oF 18 1 1,
 oH 19 1 18,
 oA 20 .gtr 19 (.c (oI 64)),
 oT 21 20,
 ⟨some 22,.faddr 4 (.t 1),some (21,false)⟩,
 ⟨some 23,.load false 1 (.t 22),some (21,false)⟩,
 ⟨some 24,.len (.t 23),some (21,false)⟩,
 ⟨some 25,.bin .gtr (.t 24) (.c (oI 512)),some (21,false)⟩,
 oO 26 (.pick (.t 21) (.c (.bool true)) (.t 25))])
 (.cond (.t 26)
 (oR ([oM 2 (.c (oI 4))])
 .ret)
 .skip))
 (.seq (oR ([oF 27 2 1,
 oH 28 1 27,
 oF 29 1 1,
 oH 30 1 29,
 oO 31 (.call 46 [.t 28,.t 30]),
 oT 3 31])
 (oR ([oT 32 3,
 oA 33 .neq 32 (.c (oI 0))])
 (.cond (.t 33)
 (oR ([oT 34 3,
 oT 2 34])
 .ret)
 .skip)))
 (.seq (oR ([oF 35 3 1,
 oH 36 1 35,
 oF 37 1 1,
 oH 38 1 37,
 oO 39 (.call 46 [.t 36,.t 38]),
 oT 4 39])
 (oR ([oT 40 4,
 oA 41 .neq 40 (.c (oI 0))])
 (.cond (.t 41)
 (oR ([oT 42 4,
 oT 2 42])
 .ret)
 .skip)))
 (.seq (oR ([oM 5 (.c (oI 0))])
 (.block 0 (.loop xQ2 xZV)))
 (oR ([oM 2 (.c (oI 0))])
 .ret))))))),
 [.tmp 2]⟩
def a16 : AFunc := ⟨17,
 oR ([oX 2 (.t 0),
 oM 4 (.c (oS)),
 oM 5 (.c (oI 0))])
 (.seq (oR ([oG 7 5 2,
 oT 8 1,
 oO 9 (.call 47 [.t 7,.t 8]),
 oT 6 9])
 (oR ([oT 10 6,
 oA 11 .neq 10 (.c (oI 0))])
 (.cond (.t 11)
 (oR ([oT 12 6,
 oM 4 (.c (oS)),
 oT 5 12])
 .ret)
 .skip)))
 (oR ([oG 13 5 2,
 oT 14 1,
 oO 15 (.call 49 [.t 13,.t 14]),
 oO 16 (.ocall 48 [.t 15]),
 oT 4 16,
 oM 5 (.c (oI 0))])
 .ret)),
 [.tmp 4,.tmp 5]⟩
def a17 : AFunc := ⟨26,
 oR ([oX 2 (.t 0),
 oM 4 (.c (oS)),
 oM 5 (.c (oI 0))])
 (.seq (oR ([oG 8 5 2,
 oO 9 (.call 15 [.t 8]),
 oT 6 9])
 (oR ([oT 10 6,
 oA 11 .neq 10 (.c (oI 0))])
 (.cond (.t 11)
 (oR ([oT 12 6,
 oM 4 (.c (oS)),
 oT 5 12])
 .ret)
 .skip)))
 (.seq (oR ([oT 13 1,
 oF 14 0 2,
 oH 15 1 14,
 oO 16 (.call 50 [.t 13,.t 15]),
 oT 7 16])
 (oR ([oT 17 7,
 oA 18 .neq 17 (.c (oI 0))])
 (.cond (.t 18)
 (oR ([oT 19 7,
 oM 4 (.c (oS)),
 oT 5 19])
 .ret)
 .skip)))
 (.seq (.draw 4 [oG 20 5 2,
 oT 21 1,
 oT 22 1,
 oO 23 (.call 53 [.t 22]),
 oO 24 (.call 52 [.t 20,.t 21,.t 23]),
 oO 25 (.call 51 [.t 24]),
 oT 4 25,
 oM 5 (.c (oI 0))])
 .ret))),
 [.tmp 4,.tmp 5]⟩
def a18 : AFunc := ⟨21,
 oR ([oX 2 (.t 0),
 oM 4 (.c (.bool false)),
 oM 5 (.c (oI 0))])
 (.seq (oR ([oG 7 5 2,
 oT 8 1,
 oO 9 (.call 47 [.t 7,.t 8]),
 oT 6 9])
 (oR ([oT 10 6,
 oA 11 .neq 10 (.c (oI 0))])
 (.cond (.t 11)
 (oR ([oT 12 6,
 oM 4 (.c (.bool false)),
 oT 5 12])
 .ret)
 .skip)))
 (.seq (.draw 5 [oG 13 5 2,
 oT 14 1,
 oO 15 (.call 49 [.t 13,.t 14]),
 oF 16 3 2,
 oH 17 1 16,
 oO 18 (.call 54 [.t 17]),
 oB 19 .and 15 18,
 oA 20 .neq 19 (.c (.int .u64 0)),
 oT 4 20,
 oM 5 (.c (oI 0))])
 .ret)),
 [.tmp 4,.tmp 5]⟩
def xO0 : ACode :=
 .seq (oR ([oT 27 9,
 oF 28 3 2,
 oH 29 1 28,
 oN 30 29,
 oB 31 .lss 27 30])
 (.cond (.t 31)
 .skip
 (.exit 0)))
 (.seq (.block 1 (oR ([oT 34 8,
 oF 35 3 2,
 oH 36 1 35,
 oT 37 9,
 oO 38 (.iaddr 1 (.t 36) (.t 37)),
 oH 39 1 38,
 oO 40 (.iaddr 1 (.t 34) (.t 39)),
 oH 41 1 40])
 (.cond (.t 41)
 (oR ([oM 4 (.c (.bool true)),
 oM 5 (.c (oI 0))])
 .ret)
 .skip)))
 (.region [oT 32 9,
 oA 33 .add 32 (.c (oI 1)),
 oT 9 33]))
def xZW : ACode := xO0
def xQ3 : List Nat := [0,1,3,6,7,10,11,12,13,14,15,16,17,18,19,20,21,22,23,24,25,26,27,28,29,30,31,32,33,34,35,36,37,38,39,40,41]
abbrev xO1 (s2 s4 s5 s8 s9 : AV) : List AV := [oE,oE,s2,oE,s4,s5,oE,oE,s8,s9,oE,oE,oE,oE,oE,oE,oE,oE,oE,oE,oE,oE,oE,oE,oE,oE,oE,oE,oE,oE,oE,oE,oE,oE,oE,oE,oE,oE,oE,oE,oE,oE]
theorem xO2 (a b c d e f g h i j k l m n o p q r s t u v w x y z A B C D E F G H I J K L M N O P : AV) : xAH xQ3 [a,b,c,d,e,f,g,h,i,j,k,l,m,n,o,p,q,r,s,t,u,v,w,x,y,z,A,B,C,D,E,F,G,H,I,J,K,L,M,N,O,P] = xO1 c e f i j := by kernel_rfl
theorem xT3 {prog : Nat → Option AFunc} (s2 s4 s5 s8 s9 : AV) (H : Heap) : (lim prog).loop xQ3 xZW ⟨xO1 s2 s4 s5 s8 s9,H⟩ = xDR (lim prog) xQ3 xZW (run (lim prog) xO0 ⟨xO1 s2 s4 s5 s8 s9,H⟩) := xAe _ _ _ _ (by kernel_rfl)
def a19 : AFunc := ⟨42,
 oR ([oX 2 (.t 0),
 oM 4 (.c (.bool false)),
 oM 5 (.c (oI 0))])
 (.seq (oR ([oG 10 5 2,
 oO 11 (.call 15 [.t 10]),
 oT 6 11])
 (oR ([oT 12 6,
 oA 13 .neq 12 (.c (oI 0))])
 (.cond (.t 13)
 (oR ([oT 14 6,
 oM 4 (.c (.bool false)),
 oT 5 14])
 .ret)
 .skip)))
 (.seq (oR ([oT 15 1,
 oF 16 0 2,
 oH 17 1 16,
 oO 18 (.call 50 [.t 15,.t 17]),
 oT 7 18])
 (oR ([oT 19 7,
 oA 20 .neq 19 (.c (oI 0))])
 (.cond (.t 20)
 (oR ([oT 21 7,
 oM 4 (.c (.bool false)),
 oT 5 21])
 .ret)
 .skip)))
 (.seq (.draw 4 [oG 22 5 2,
 oT 23 1,
 oT 24 1,
 oO 25 (.call 53 [.t 24]),
 oO 26 (.call 52 [.t 22,.t 23,.t 25]),
 oT 8 26])
 (.seq (oR ([oM 9 (.c (oI 0))])
 (.block 0 (.loop xQ3 xZW)))
 (oR ([oM 4 (.c (.bool false)),
 oM 5 (.c (oI 0))])
 .ret))))),
 [.tmp 4,.tmp 5]⟩
def a20 : AFunc := ⟨13,
 oR ([oX 1 (.t 0),
 oM 2 (.c (oS)),
 oM 3 (.c (oI 0))])
 (.seq (oR ([oG 5 5 1,
 oO 6 (.call 14 [.t 5]),
 oT 4 6])
 (oR ([oT 7 4,
 oA 8 .neq 7 (.c (oI 0))])
 (.cond (.t 8)
 (oR ([oT 9 4,
 oM 2 (.c (oS)),
 oT 3 9])
 .ret)
 .skip)))
 (oR ([oG 10 5 1,
 oO 11 (.call 55 [.t 10]),
 oO 12 (.ocall 48 [.t 11]),
 oT 2 12,
 oM 3 (.c (oI 0))])
 .ret)),
 [.tmp 2,.tmp 3]⟩
def a21 : AFunc := ⟨13,
 oR ([oX 1 (.t 0),
 oM 2 (.c (oS)),
 oM 3 (.c (oI 0))])
 (.seq (oR ([oG 5 5 1,
 oO 6 (.call 15 [.t 5]),
 oT 4 6])
 (oR ([oT 7 4,
 oA 8 .neq 7 (.c (oI 0))])
 (.cond (.t 8)
 (oR ([oT 9 4,
 oM 2 (.c (oS)),
 oT 3 9])
 .ret)
 .skip)))
 (oR ([oG 10 5 1,
 oO 11 (.call 56 [.t 10]),
 oO 12 (.call 51 [.t 11]),
 oT 2 12,
 oM 3 (.c (oI 0))])
 .ret)),
 [.tmp 2,.tmp 3]⟩
def xQ4 : ACode :=
 oR ([oB 24 .lss 23 22])
 (.seq (.cond (.t 24)
 .skip
 (.exit 0))
 (.seq (.block 1 (oR ([oT 25 23,
 oT 8 25])
 (oR ([oT 26 6,
 oT 27 8,
 oO 28 (.iaddr 1 (.t 26) (.t 27)),
 ⟨none,.store 1 (.t 28) (.c (.int .i64 (-1))),none⟩])
 (oR ([oT 29 5,
 oT 30 8,
 oB 31 .shr 29 30,
 oA 32 .and 31 (.c (.int .u64 1)),
 oA 33 .neq 32 (.c (.int .u64 0))])
 (.cond (.t 33)
 (oR ([oT 34 6,
 oT 35 8,
 oT 36 7,
 oO 37 (.iaddr 1 (.t 34) (.t 35)),
 ⟨none,.store 1 (.t 37) (.t 36),none⟩])
 (.region [oT 38 7,
 oA 39 .add 38 (.c (oI 1)),
 oT 7 39]))
 .skip)))))
 (.region [oA 40 .add 23 (.c (oI 1)),
 oT 23 40])))
def xXb : ACode := xQ4
def xO3 : List Nat := [0,3,4,8,9,10,11,12,13,14,15,16,17,18,19,20,21,24,25,26,27,28,29,30,31,32,33,34,35,36,37,38,39,40,41,42,43,44,45,46]
abbrev xNX (s1 s2 s5 s6 s7 s22 s23 : AV) : List AV := [oE,s1,s2,oE,oE,s5,s6,s7,oE,oE,oE,oE,oE,oE,oE,oE,oE,oE,oE,oE,oE,oE,s22,s23,oE,oE,oE,oE,oE,oE,oE,oE,oE,oE,oE,oE,oE,oE,oE,oE,oE,oE,oE,oE,oE,oE,oE]
theorem xT4 (a b c d e f g h i j k l m n o p q r s t u v w x y z A B C D E F G H I J K L M N O P Q R S T U : AV) : xAH xO3 [a,b,c,d,e,f,g,h,i,j,k,l,m,n,o,p,q,r,s,t,u,v,w,x,y,z,A,B,C,D,E,F,G,H,I,J,K,L,M,N,O,P,Q,R,S,T,U] = xNX b c f g h w x := by kernel_rfl
theorem yBv {prog : Nat → Option AFunc} (s1 s2 s5 s6 s7 s22 s23 : AV) (H : Heap) : (lim prog).loop xO3 xXb ⟨xNX s1 s2 s5 s6 s7 s22 s23,H⟩ = xDR (lim prog) xO3 xXb (run (lim prog) xQ4 ⟨xNX s1 s2 s5 s6 s7 s22 s23,H⟩) := xAe _ _ _ _ (by kernel_rfl)
def a22 : AFunc := ⟨47,
 oR ([oX 1 (.t 0),
 oX 2 (.c (.agg [oI 0,oI 0,oS,oS,oS])),
 oM 3 (.c (oI 0))])
 (.seq (oR ([oG 10 5 1,
 oO 11 (.call 14 [.t 10]),
 oT 4 11])
 (oR ([oT 12 4,
 oA 13 .neq 12 (.c (oI 0))])
 (.cond (.t 13)
 (oR ([oO 14 (.build [oI 0,oI 0,oS,oS,oS] []),
 oT 15 4,
 ⟨none,.store 5 (.t 2) (.t 14),none⟩,
 oT 3 15])
 .ret)
 .skip)))
 (oR ([oG 16 5 1,
 oO 17 (.call 57 [.t 16]),
 oT 5 17])
 (oR ([oF 18 1 1,
 oH 19 1 18,
 oO 20 (.mkslice false [oI 0] 8 (.t 19) (.t 19)),
 oT 6 20])
 (oR ([oM 7 (.c (oI 0))])
 (.seq (oR ([oT 21 6,
 oN 22 21,
 oM 23 (.c (oI 0))])
 (.block 0 (.loop xO3 xXb)))
 (oR ([oG 41 5 1,
 oT 42 6,
 oO 43 (.ocallw 58 [.t 41,.t 42]),
 oX 9 (.c (.agg [oI 0,oI 0,oS,oS,oS])),
 ⟨none,.store 5 (.t 9) (.t 43),none⟩])
 (oR ([oT 44 7,
 oF 45 1 9,
 ⟨none,.store 1 (.t 45) (.t 44),none⟩])
 (oR ([oG 46 5 9,
 ⟨none,.store 5 (.t 2) (.t 46),none⟩,
 oM 3 (.c (oI 0))])
 .ret)))))))),
 [.cell 2 true 5,.tmp 3]⟩
def xQ5 : ACode :=
 .seq (oR ([oT 27 8,
 oF 28 1 1,
 oH 29 1 28,
 oB 30 .lss 27 29])
 (.cond (.t 30)
 .skip
 (.exit 0)))
 (.seq (.block 1 (oR ([oT 33 7,
 oT 34 8,
 oF 35 1 6,
 oH 36 1 35,
 oO 37 (.iaddr 1 (.t 33) (.t 34)),
 ⟨none,.store 1 (.t 37) (.t 36),none⟩])
 (oR ([oT 38 5,
 oT 39 8,
 oO 40 (.iaddr 1 (.t 38) (.t 39)),
 oH 41 1 40])
 (.cond (.t 41)
 (.region [oF 42 1 6,
 oH 43 1 42,
 oA 44 .add 43 (.c (oI 1)),
 oF 45 1 6,
 ⟨none,.store 1 (.t 45) (.t 44),none⟩])
 .skip))))
 (.region [oT 31 8,
 oA 32 .add 31 (.c (oI 1)),
 oT 8 32]))
def xZX : ACode := xQ5
def xQ6 : List Nat := [0,3,4,9,10,11,12,13,14,15,16,17,18,19,20,21,22,23,24,25,26,27,28,29,30,31,32,33,34,35,36,37,38,39,40,41,42,43,44,45,46,47,48,49,50,51,52,53,54,55,56,57,58,59,60,61,62,63,64,65,66,67,68,69,70,71,72,73,74,75,76,77,78,79,80,81,82,83,84,85,86,87,88,89,90,91,92,93,94,95,96,97,98,99,100,101,102,103,104,105,106,107,108,109,110,111,112,113,114,115,116,117,118,119,120,121,122,123,124,125,126,127,128,129,130,131,132,133,134,135,136,137,138,139,140,141,142,143,144,145,146,147,148,149,150,151,152,153,154,155,156,157,158]
abbrev xQ7 (s1 s2 s5 s6 s7 s8 : AV) : List AV := [oE,s1,s2,oE,oE,s5,s6,s7,s8,oE,oE,oE,oE,oE,oE,oE,oE,oE,oE,oE,oE,oE,oE,oE,oE,oE,oE,oE,oE,oE,oE,oE,oE,oE,oE,oE,oE,oE,oE,oE,oE,oE,oE,oE,oE,oE,oE,oE,oE,oE,oE,oE,oE,oE,oE,oE,oE,oE,oE,oE,oE,oE,oE,oE,oE,oE,oE,oE,oE,oE,oE,oE,oE,oE,oE,oE,oE,oE,oE,oE,oE,oE,oE,oE,oE,oE,oE,oE,oE,oE,oE,oE,oE,oE,oE,oE,oE,oE,oE,oE,oE,oE,oE,oE,oE,oE,oE,oE,oE,oE,oE,oE,oE,oE,oE,oE,oE,oE,oE,oE,oE,oE,oE,oE,oE,oE,oE,oE,oE,oE,oE,oE,oE,oE,oE,oE,oE,oE,oE,oE,oE,oE,oE,oE,oE,oE,oE,oE,oE,oE,oE,oE,oE,oE,oE,oE,oE,oE,oE]
theorem xT5 (a b c d e f g h i j k l m n o p q r s t u v w x y z A B C D E F G H I J K L M N O P Q R S T U V W X Y Z a0 a1 a2 a3 a4 a5 a6 a7 a8 a9 b0 b1 b2 b3 b4 b5 b6 b7 b8 b9 c0 c1 c2 c3 c4 c5 c6 c7 c8 c9 d0 d1 d2 d3 d4 d5 d6 d7 d8 d9 e0 e1 e2 e3 e4 e5 e6 e7 e8 e9 f0 f1 f2 f3 f4 f5 f6 f7 f8 f9 g0 g1 g2 g3 g4 g5 g6 g7 g8 g9 h0 h1 h2 h3 h4 h5 h6 h7 h8 h9 i0 i1 i2 i3 i4 i5 i6 i7 i8 i9 j0 j1 j2 j3 j4 j5 j6 j7 j8 j9 k0 k1 k2 k3 k4 k5 k6 : AV) : xAH xQ6 [a,b,c,d,e,f,g,h,i,j,k,l,m,n,o,p,q,r,s,t,u,v,w,x,y,z,A,B,C,D,E,F,G,H,I,J,K,L,M,N,O,P,Q,R,S,T,U,V,W,X,Y,Z,a0,a1,a2,a3,a4,a5,a6,a7,a8,a9,b0,b1,b2,b3,b4,b5,b6,b7,b8,b9,c0,c1,c2,c3,c4,c5,c6,c7,c8,c9,d0,d1,d2,d3,d4,d5,d6,d7,d8,d9,e0,e1,e2,e3,e4,e5,e6,e7,e8,e9,f0,f1,f2,f3,f4,f5,f6,f7,f8,f9,g0,g1,g2,g3,g4,g5,g6,g7,g8,g9,h0,h1,h2,h3,h4,h5,h6,h7,h8,h9,i0,i1,i2,i3,i4,i5,i6,i7,i8,i9,j0,j1,j2,j3,j4,j5,j6,j7,j8,j9,k0,k1,k2,k3,k4,k5,k6] = xQ7 b c f g h i := by kernel_rfl
theorem xXc {prog : Nat → Option AFunc} (s1 s2 s5 s6 s7 s8 : AV) (H : Heap) : (lim prog).loop xQ6 xZX ⟨xQ7 s1 s2 s5 s6 s7 s8,H⟩ = xDR (lim prog) xQ6 xZX (run (lim prog) xQ5 ⟨xQ7 s1 s2 s5 s6 s7 s8,H⟩) := xAe _ _ _ _ (by kernel_rfl)
def xO4 : ACode :=
 .seq (oR ([oT 46 9,
 oF 47 2 1,
 oH 48 1 47,
 oN 49 48,
 oB 50 .lss 46 49])
 (.cond (.t 50)
 .skip
 (.exit 2)))
 (.seq (.block 3 (oR ([oT 53 5,
 oF 54 2 1,
 oH 55 1 54,
 oT 56 9,
 oO 57 (.iaddr 1 (.t 55) (.t 56)),
 oH 58 1 57,
 oO 59 (.iaddr 1 (.t 53) (.t 58)),
 oH 60 1 59])
 (.cond (.t 60)
 (.draw 5 [oF 61 2 6,
 oH 62 1 61,
 oT 63 7,
 oF 64 2 1,
 oH 65 1 64,
 oT 66 9,
 oO 67 (.iaddr 1 (.t 65) (.t 66)),
 oH 68 1 67,
 oO 69 (.iaddr 1 (.t 63) (.t 68)),
 oH 70 1 69,
 oO 71 (.bslice true [oI 0] 1 1 [(0,.t 70)]),
 oO 72 (.append false 1 8 (.t 62) (.t 71)),
 oF 73 2 6,
 ⟨none,.store 1 (.t 73) (.t 72),none⟩])
 .skip)))
 (.region [oT 51 9,
 oA 52 .add 51 (.c (oI 1)),
 oT 9 52]))
def xZY : ACode := xO4
def xQ8 : List Nat := [0,3,4,8,10,11,12,13,14,15,16,17,18,19,20,21,22,23,24,25,26,27,28,29,30,31,32,33,34,35,36,37,38,39,40,41,42,43,44,45,46,47,48,49,50,51,52,53,54,55,56,57,58,59,60,61,62,63,64,65,66,67,68,69,70,71,72,73,74,75,76,77,78,79,80,81,82,83,84,85,86,87,88,89,90,91,92,93,94,95,96,97,98,99,100,101,102,103,104,105,106,107,108,109,110,111,112,113,114,115,116,117,118,119,120,121,122,123,124,125,126,127,128,129,130,131,132,133,134,135,136,137,138,139,140,141,142,143,144,145,146,147,148,149,150,151,152,153,154,155,156,157,158]
abbrev xQ9 (s1 s2 s5 s6 s7 s9 : AV) : List AV := [oE,s1,s2,oE,oE,s5,s6,s7,oE,s9,oE,oE,oE,oE,oE,oE,oE,oE,oE,oE,oE,oE,oE,oE,oE,oE,oE,oE,oE,oE,oE,oE,oE,oE,oE,oE,oE,oE,oE,oE,oE,oE,oE,oE,oE,oE,oE,oE,oE,oE,oE,oE,oE,oE,oE,oE,oE,oE,oE,oE,oE,oE,oE,oE,oE,oE,oE,oE,oE,oE,oE,oE,oE,oE,oE,oE,oE,oE,oE,oE,oE,oE,oE,oE,oE,oE,oE,oE,oE,oE,oE,oE,oE,oE,oE,oE,oE,oE,oE,oE,oE,oE,oE,oE,oE,oE,oE,oE,oE,oE,oE,oE,oE,oE,oE,oE,oE,oE,oE,oE,oE,oE,oE,oE,oE,oE,oE,oE,oE,oE,oE,oE,oE,oE,oE,oE,oE,oE,oE,oE,oE,oE,oE,oE,oE,oE,oE,oE,oE,oE,oE,oE,oE,oE,oE,oE,oE,oE,oE]
theorem xRa (a b c d e f g h i j k l m n o p q r s t u v w x y z A B C D E F G H I J K L M N O P Q R S T U V W X Y Z a0 a1 a2 a3 a4 a5 a6 a7 a8 a9 b0 b1 b2 b3 b4 b5 b6 b7 b8 b9 c0 c1 c2 c3 c4 c5 c6 c7 c8 c9 d0 d1 d2 d3 d4 d5 d6 d7 d8 d9 e0 e1 e2 e3 e4 e5 e6 e7 e8 e9 f0 f1 f2 f3 f4 f5 f6 f7 f8 f9 g0 g1 g2 g3 g4 g5 g6 g7 g8 g9 h0 h1 h2 h3 h4 h5 h6 h7 h8 h9 i0 i1 i2 i3 i4 i5 i6 i7 i8 i9 j0 j1 j2 j3 j4 j5 j6 j7 j8 j9 k0 k1 k2 k3 k4 k5 k6 : AV) : xAH xQ8 [a,b,c,d,e,f,g,h,i,j,k,l,m,n,o,p,q,r,s,t,u,v,w,x,y,z,A,B,C,D,E,F,G,H,I,J,K,L,M,N,O,P,Q,R,S,T,U,V,W,X,Y,Z,a0,a1,a2,a3,a4,a5,a6,a7,a8,a9,b0,b1,b2,b3,b4,b5,b6,b7,b8,b9,c0,c1,c2,c3,c4,c5,c6,c7,c8,c9,d0,d1,d2,d3,d4,d5,d6,d7,d8,d9,e0,e1,e2,e3,e4,e5,e6,e7,e8,e9,f0,f1,f2,f3,f4,f5,f6,f7,f8,f9,g0,g1,g2,g3,g4,g5,g6,g7,g8,g9,h0,h1,h2,h3,h4,h5,h6,h7,h8,h9,i0,i1,i2,i3,i4,i5,i6,i7,i8,i9,j0,j1,j2,j3,j4,j5,j6,j7,j8,j9,k0,k1,k2,k3,k4,k5,k6] = xQ9 b c f g h j := by kernel_rfl
theorem xT6 {prog : Nat → Option AFunc} (s1 s2 s5 s6 s7 s9 : AV) (H : Heap) : (lim prog).loop xQ8 xZY ⟨xQ9 s1 s2 s5 s6 s7 s9,H⟩ = xDR (lim prog) xQ8 xZY (run (lim prog) xO4 ⟨xQ9 s1 s2 s5 s6 s7 s9,H⟩) := xAe _ _ _ _ (by kernel_rfl)
def xO5 : ACode :=
 .seq (oR ([oT 74 10,
 oF 75 3 1,
 oH 76 1 75,
 oN 77 76,
 oB 78 .lss 74 77])
 (.cond (.t 78)
 .skip
 (.exit 4)))
 (.seq (.block 5 (oR ([oT 81 5,
 oF 82 3 1,
 oH 83 1 82,
 oT 84 10,
 oO 85 (.iaddr 1 (.t 83) (.t 84)),
 oH 86 1 85,
 oO 87 (.iaddr 1 (.t 81) (.t 86)),
 oH 88 1 87])
 (.cond (.t 88)
 (.draw 5 [oF 89 3 6,
 oH 90 1 89,
 oT 91 7,
 oF 92 3 1,
 oH 93 1 92,
 oT 94 10,
 oO 95 (.iaddr 1 (.t 93) (.t 94)),
 oH 96 1 95,
 oO 97 (.iaddr 1 (.t 91) (.t 96)),
 oH 98 1 97,
 oO 99 (.bslice true [oI 0] 1 1 [(0,.t 98)]),
 oO 100 (.append false 1 8 (.t 90) (.t 99)),
 oF 101 3 6,
 ⟨none,.store 1 (.t 101) (.t 100),none⟩])
 .skip)))
 (.region [oT 79 10,
 oA 80 .add 79 (.c (oI 1)),
 oT 10 80]))
def xZZ : ACode := xO5
def xRb : List Nat := [0,3,4,8,9,11,12,13,14,15,16,17,18,19,20,21,22,23,24,25,26,27,28,29,30,31,32,33,34,35,36,37,38,39,40,41,42,43,44,45,46,47,48,49,50,51,52,53,54,55,56,57,58,59,60,61,62,63,64,65,66,67,68,69,70,71,72,73,74,75,76,77,78,79,80,81,82,83,84,85,86,87,88,89,90,91,92,93,94,95,96,97,98,99,100,101,102,103,104,105,106,107,108,109,110,111,112,113,114,115,116,117,118,119,120,121,122,123,124,125,126,127,128,129,130,131,132,133,134,135,136,137,138,139,140,141,142,143,144,145,146,147,148,149,150,151,152,153,154,155,156,157,158]
abbrev xRc (s1 s2 s5 s6 s7 s10 : AV) : List AV := [oE,s1,s2,oE,oE,s5,s6,s7,oE,oE,s10,oE,oE,oE,oE,oE,oE,oE,oE,oE,oE,oE,oE,oE,oE,oE,oE,oE,oE,oE,oE,oE,oE,oE,oE,oE,oE,oE,oE,oE,oE,oE,oE,oE,oE,oE,oE,oE,oE,oE,oE,oE,oE,oE,oE,oE,oE,oE,oE,oE,oE,oE,oE,oE,oE,oE,oE,oE,oE,oE,oE,oE,oE,oE,oE,oE,oE,oE,oE,oE,oE,oE,oE,oE,oE,oE,oE,oE,oE,oE,oE,oE,oE,oE,oE,oE,oE,oE,oE,oE,oE,oE,oE,oE,oE,oE,oE,oE,oE,oE,oE,oE,oE,oE,oE,oE,oE,oE,oE,oE,oE,oE,oE,oE,oE,oE,oE,oE,oE,oE,oE,oE,oE,oE,oE,oE,oE,oE,oE,oE,oE,oE,oE,oE,oE,oE,oE,oE,oE,oE,oE,oE,oE,oE,oE,oE,oE,oE,oE]
theorem xRd (a b c d e f g h i j k l m n o p q r s t u v w x y z A B C D E F G H I J K L M N O P Q R S T U V W X Y Z a0 a1 a2 a3 a4 a5 a6 a7 a8 a9 b0 b1 b2 b3 b4 b5 b6 b7 b8 b9 c0 c1 c2 c3 c4 c5 c6 c7 c8 c9 d0 d1 d2 d3 d4 d5 d6 d7 d8 d9 e0 e1 e2 e3 e4 e5 e6 e7 e8 e9 f0 f1 f2 f3 f4 f5 f6 f7 f8 f9 g0 g1 g2 g3 g4 g5 g6 g7 g8 g9 h0 h1 h2 h3 h4 h5 h6 h7 h8 h9 i0 i1 i2 i3 i4 i5 i6 i7 i8 i9 j0 j1 j2 j3 j4 j5 j6 j7 j8 j9 k0 k1 k2 k3 k4 k5 k6 : AV) : xAH xRb [a,b,c,d,e,f,g,h,i,j,k,l,m,n,o,p,q,r,s,t,u,v,w,x,y,z,A,B,C,D,E,F,G,H,I,J,K,L,M,N,O,P,Q,R,S,T,U,V,W,X,Y,Z,a0,a1,a2,a3,a4,a5,a6,a7,a8,a9,b0,b1,b2,b3,b4,b5,b6,b7,b8,b9,c0,c1,c2,c3,c4,c5,c6,c7,c8,c9,d0,d1,d2,d3,d4,d5,d6,d7,d8,d9,e0,e1,e2,e3,e4,e5,e6,e7,e8,e9,f0,f1,f2,f3,f4,f5,f6,f7,f8,f9,g0,g1,g2,g3,g4,g5,g6,g7,g8,g9,h0,h1,h2,h3,h4,h5,h6,h7,h8,h9,i0,i1,i2,i3,i4,i5,i6,i7,i8,i9,j0,j1,j2,j3,j4,j5,j6,j7,j8,j9,k0,k1,k2,k3,k4,k5,k6] = xRc b c f g h k := by kernel_rfl
theorem xT7 {prog : Nat → Option AFunc} (s1 s2 s5 s6 s7 s10 : AV) (H : Heap) : (lim prog).loop xRb xZZ ⟨xRc s1 s2 s5 s6 s7 s10,H⟩ = xDR (lim prog) xRb xZZ (run (lim prog) xO5 ⟨xRc s1 s2 s5 s6 s7 s10,H⟩) := xAe _ _ _ _ (by kernel_rfl)
def xM8 : ACode :=
 .seq (oR ([oT 102 11,
 oF 103 4 1,
 oH 104 1 103,
 oN 105 104,
 oB 106 .lss 102 105])
 (.cond (.t 106)
 .skip
 (.exit 6)))
 (.seq (.block 7 (oR ([oF 109 4 1,
 oH 110 1 109,
 oT 111 11,
 oO 112 (.iaddr 5 (.t 110) (.t 111)),
 oG 113 5 112,
 oX 12 (.c (.agg [oI 0,oI 0,oI 0,.int .u8 0,.int .u8 0])),
 ⟨none,.store 5 (.t 12) (.t 113),none⟩])
 (oR ([oT 114 5,
 oF 115 0 12,
 oH 116 1 115,
 oO 117 (.iaddr 1 (.t 114) (.t 116)),
 oH 118 1 117,
 oT 119 118,
 ⟨some 120,.mov (.t 5),some (119,true)⟩,
 ⟨some 121,.faddr 1 (.t 12),some (119,true)⟩,
 ⟨some 122,.load false 1 (.t 121),some (119,true)⟩,
 ⟨some 123,.iaddr 1 (.t 120) (.t 122),some (119,true)⟩,
 ⟨some 124,.load false 1 (.t 123),some (119,true)⟩,
 oO 125 (.pick (.t 119) (.t 124) (.c (.bool false))),
 oT 126 125,
 ⟨some 127,.mov (.t 5),some (126,true)⟩,
 ⟨some 128,.faddr 2 (.t 12),some (126,true)⟩,
 ⟨some 129,.load false 1 (.t 128),some (126,true)⟩,
 ⟨some 130,.iaddr 1 (.t 127) (.t 129),some (126,true)⟩,
 ⟨some 131,.load false 1 (.t 130),some (126,true)⟩,
 oO 132 (.pick (.t 126) (.t 131) (.c (.bool false)))])
 (.cond (.t 132)
 (.draw 19 [oF 133 4 6,
 oH 134 1 133,
 oT 135 7,
 oF 136 0 12,
 oH 137 1 136,
 oO 138 (.iaddr 1 (.t 135) (.t 137)),
 oH 139 1 138,
 oT 140 7,
 oF 141 1 12,
 oH 142 1 141,
 oO 143 (.iaddr 1 (.t 140) (.t 142)),
 oH 144 1 143,
 oT 145 7,
 oF 146 2 12,
 oH 147 1 146,
 oO 148 (.iaddr 1 (.t 145) (.t 147)),
 oH 149 1 148,
 oF 150 3 12,
 oH 151 1 150,
 oF 152 4 12,
 oH 153 1 152,
 oO 154 (.build [oI 0,oI 0,oI 0,.int .u8 0,.int .u8 0] [(0,1,.t 139),(1,1,.t 144),(2,1,.t 149),(3,1,.t 151),(4,1,.t 153)]),
 oO 155 (.bslice true [oI 0,oI 0,oI 0,.int .u8 0,.int .u8 0] 5 1 [(0,.t 154)]),
 oO 156 (.append false 5 32 (.t 134) (.t 155)),
 oF 157 4 6,
 ⟨none,.store 1 (.t 157) (.t 156),none⟩])
 .skip))))
 (.region [oT 107 11,
 oA 108 .add 107 (.c (oI 1)),
 oT 11 108]))
def xZ0 : ACode := xM8
def xRe : List Nat := [0,3,4,8,9,10,12,13,14,15,16,17,18,19,20,21,22,23,24,25,26,27,28,29,30,31,32,33,34,35,36,37,38,39,40,41,42,43,44,45,46,47,48,49,50,51,52,53,54,55,56,57,58,59,60,61,62,63,64,65,66,67,68,69,70,71,72,73,74,75,76,77,78,79,80,81,82,83,84,85,86,87,88,89,90,91,92,93,94,95,96,97,98,99,100,101,102,103,104,105,106,107,108,109,110,111,112,113,114,115,116,117,118,119,120,121,122,123,124,125,126,127,128,129,130,131,132,133,134,135,136,137,138,139,140,141,142,143,144,145,146,147,148,149,150,151,152,153,154,155,156,157,158]
abbrev xRf (s1 s2 s5 s6 s7 s11 : AV) : List AV := [oE,s1,s2,oE,oE,s5,s6,s7,oE,oE,oE,s11,oE,oE,oE,oE,oE,oE,oE,oE,oE,oE,oE,oE,oE,oE,oE,oE,oE,oE,oE,oE,oE,oE,oE,oE,oE,oE,oE,oE,oE,oE,oE,oE,oE,oE,oE,oE,oE,oE,oE,oE,oE,oE,oE,oE,oE,oE,oE,oE,oE,oE,oE,oE,oE,oE,oE,oE,oE,oE,oE,oE,oE,oE,oE,oE,oE,oE,oE,oE,oE,oE,oE,oE,oE,oE,oE,oE,oE,oE,oE,oE,oE,oE,oE,oE,oE,oE,oE,oE,oE,oE,oE,oE,oE,oE,oE,oE,oE,oE,oE,oE,oE,oE,oE,oE,oE,oE,oE,oE,oE,oE,oE,oE,oE,oE,oE,oE,oE,oE,oE,oE,oE,oE,oE,oE,oE,oE,oE,oE,oE,oE,oE,oE,oE,oE,oE,oE,oE,oE,oE,oE,oE,oE,oE,oE,oE,oE,oE]
theorem xNY (a b c d e f g h i j k l m n o p q r s t u v w x y z A B C D E F G H I J K L M N O P Q R S T U V W X Y Z a0 a1 a2 a3 a4 a5 a6 a7 a8 a9 b0 b1 b2 b3 b4 b5 b6 b7 b8 b9 c0 c1 c2 c3 c4 c5 c6 c7 c8 c9 d0 d1 d2 d3 d4 d5 d6 d7 d8 d9 e0 e1 e2 e3 e4 e5 e6 e7 e8 e9 f0 f1 f2 f3 f4 f5 f6 f7 f8 f9 g0 g1 g2 g3 g4 g5 g6 g7 g8 g9 h0 h1 h2 h3 h4 h5 h6 h7 h8 h9 i0 i1 i2 i3 i4 i5 i6 i7 i8 i9 j0 j1 j2 j3 j4 j5 j6 j7 j8 j9 k0 k1 k2 k3 k4 k5 k6 : AV) : xAH xRe [a,b,c,d,e,f,g,h,i,j,k,l,m,n,o,p,q,r,s,t,u,v,w,x,y,z,A,B,C,D,E,F,G,H,I,J,K,L,M,N,O,P,Q,R,S,T,U,V,W,X,Y,Z,a0,a1,a2,a3,a4,a5,a6,a7,a8,a9,b0,b1,b2,b3,b4,b5,b6,b7,b8,b9,c0,c1,c2,c3,c4,c5,c6,c7,c8,c9,d0,d1,d2,d3,d4,d5,d6,d7,d8,d9,e0,e1,e2,e3,e4,e5,e6,e7,e8,e9,f0,f1,f2,f3,f4,f5,f6,f7,f8,f9,g0,g1,g2,g3,g4,g5,g6,g7,g8,g9,h0,h1,h2,h3,h4,h5,h6,h7,h8,h9,i0,i1,i2,i3,i4,i5,i6,i7,i8,i9,j0,j1,j2,j3,j4,j5,j6,j7,j8,j9,k0,k1,k2,k3,k4,k5,k6] = xRf b c f g h l := by kernel_rfl
theorem xO6 {prog : Nat → Option AFunc} (s1 s2 s5 s6 s7 s11 : AV) (H : Heap) : (lim prog).loop xRe xZ0 ⟨xRf s1 s2 s5 s6 s7 s11,H⟩ = xDR (lim prog) xRe xZ0 (run (lim prog) xM8 ⟨xRf s1 s2 s5 s6 s7 s11,H⟩) := xAe _ _ _ _ (by kernel_rfl)
def a23 : AFunc := ⟨159,
 oR ([oX 1 (.t 0),
 oX 2 (.c (.agg [oI 0,oI 0,oS,oS,oS])),
 oM 3 (.c (oI 0))])
 (.seq (oR ([oG 13 5 1,
 oO 14 (.call 15 [.t 13]),
 oT 4 14])
 (oR ([oT 15 4,
 oA 16 .neq 15 (.c (oI 0))])
 (.cond (.t 16)
 (oR ([oO 17 (.build [oI 0,oI 0,oS,oS,oS] []),
 oT 18 4,
 ⟨none,.store 5 (.t 2) (.t 17),none⟩,
 oT 3 18])
 .ret)
 .skip)))
 (oR ([oG 19 5 1,
 oO 20 (.call 59 [.t 19]),
 oT 5 20])
 (oR ([oF 21 0 1,
 oH 22 1 21,
 oO 23 (.build [oI 0,oI 0,oS,oS,oS] [(0,1,.t 22)]),
 oX 6 (.c (.agg [oI 0,oI 0,oS,oS,oS])),
 ⟨none,.store 5 (.t 6) (.t 23),none⟩])
 (oR ([oF 24 1 1,
 oH 25 1 24,
 oO 26 (.mkslice false [oI 0] 8 (.t 25) (.t 25)),
 oT 7 26])
 (.seq (oR ([oM 8 (.c (oI 0))])
 (.block 0 (.loop xQ6 xZX)))
 (.seq (oR ([oM 9 (.c (oI 0))])
 (.block 2 (.loop xQ8 xZY)))
 (.seq (oR ([oM 10 (.c (oI 0))])
 (.block 4 (.loop xRb xZZ)))
 (.seq (oR ([oM 11 (.c (oI 0))])
 (.block 6 (.loop xRe xZ0)))
 (oR ([oG 158 5 6,
 ⟨none,.store 5 (.t 2) (.t 158),none⟩,
 oM 3 (.c (oI 0))])
 .ret))))))))),
 [.cell 2 true 5,.tmp 3]⟩
def xT8 : ACode :=
 .seq (oR ([oT 11 5,
 oT 12 0,
 oN 13 12,
 oB 14 .lss 11 13])
 (.cond (.t 14)
 .skip
 (.exit 0)))
 (.seq (.block 1 (.seq (.draw 5 [oT 17 0,
 oT 18 5,
 oO 19 (.iaddr 1 (.t 17) (.t 18)),
 oH 20 1 19,
 oT 21 1,
 oT 22 5,
 oO 23 (.iaddr 1 (.t 21) (.t 22)),
 oH 24 1 23,
 oB 25 .neq 20 24])
 (.cond (.t 25)
 (oR ([oM 4 (.c (.bool false))])
 .ret)
 .skip)))
 (.region [oT 15 5,
 oA 16 .add 15 (.c (oI 1)),
 oT 5 16]))
def xZ1 : ACode := xT8
def xRg : List Nat := [2,3,6,7,8,9,10,11,12,13,14,15,16,17,18,19,20,21,22,23,24,25]
abbrev xRh (s0 s1 s4 s5 : AV) : List AV := [s0,s1,oE,oE,s4,s5,oE,oE,oE,oE,oE,oE,oE,oE,oE,oE,oE,oE,oE,oE,oE,oE,oE,oE,oE,oE]
theorem xXd (a b c d e f g h i j k l m n o p q r s t u v w x y z : AV) : xAH xRg [a,b,c,d,e,f,g,h,i,j,k,l,m,n,o,p,q,r,s,t,u,v,w,x,y,z] = xRh a b e f := by kernel_rfl
theorem yBw {prog : Nat → Option AFunc} (s0 s1 s4 s5 : AV) (H : Heap) : (lim prog).loop xRg xZ1 ⟨xRh s0 s1 s4 s5,H⟩ = xDR (lim prog) xRg xZ1 (run (lim prog) xT8 ⟨xRh s0 s1 s4 s5,H⟩) := xAe _ _ _ _ (by kernel_rfl)
def a24 : AFunc := ⟨26,
 oR ([oM 4 (.c (.bool false))])
 (.seq (oR ([oT 6 0,
 oN 7 6,
 oT 8 1,
 oN 9 8,
 oB 10 .neq 7 9])
 (.cond (.t 10)
 (oR ([oM 4 (.c (.bool false))])
 .ret)
 .skip))
 (.seq (oR ([oM 5 (.c (oI 0))])
 (.block 0 (.loop xRg xZ1)))
 (oR ([oM 4 (.c (.bool true))])
 .ret))),
 [.tmp 4]⟩
def a25 : AFunc := ⟨38,
 oR ([oX 2 (.t 0),
 oX 3 (.t 1),
 oM 4 (.c (.bool false))])
 (oR ([oF 5 0 2,
 oH 6 1 5,
 oF 7 0 3,
 oH 8 1 7,
 oB 9 .eql 6 8,
 oT 10 9,
 ⟨some 11,.faddr 1 (.t 2),some (10,true)⟩,
 ⟨some 12,.load false 1 (.t 11),some (10,true)⟩,
 ⟨some 13,.faddr 1 (.t 3),some (10,true)⟩,
 ⟨some 14,.load false 1 (.t 13),some (10,true)⟩,
 ⟨some 15,.bin .eql (.t 12) (.t 14),some (10,true)⟩,
 oO 16 (.pick (.t 10) (.t 15) (.c (.bool false))),
 oT 17 16,
 ⟨some 18,.faddr 2 (.t 2),some (17,true)⟩,
 ⟨some 19,.load false 1 (.t 18),some (17,true)⟩,
 ⟨some 20,.faddr 2 (.t 3),some (17,true)⟩,
 ⟨some 21,.load false 1 (.t 20),some (17,true)⟩,
 ⟨some 22,.call 60 [.t 19,.t 21],some (17,true)⟩,
 oO 23 (.pick (.t 17) (.t 22) (.c (.bool false))),
 oT 24 23,
 ⟨some 25,.faddr 3 (.t 2),some (24,true)⟩,
 ⟨some 26,.load false 1 (.t 25),some (24,true)⟩,
 ⟨some 27,.faddr 3 (.t 3),some (24,true)⟩,
 ⟨some 28,.load false 1 (.t 27),some (24,true)⟩,
 ⟨some 29,.call 60 [.t 26,.t 28],some (24,true)⟩,
 oO 30 (.pick (.t 24) (.t 29) (.c (.bool false))),
 oT 31 30,
 ⟨some 32,.faddr 4 (.t 2),some (31,true)⟩,
 ⟨some 33,.load false 1 (.t 32),some (31,true)⟩,
 ⟨some 34,.faddr 4 (.t 3),some (31,true)⟩,
 ⟨some 35,.load false 1 (.t 34),some (31,true)⟩,
 ⟨some 36,.call 61 [.t 33,.t 35],some (31,true)⟩,
 oO 37 (.pick (.t 31) (.t 36) (.c (.bool false))),
 oT 4 37])
 .ret),
 [.tmp 4]⟩
def xT9 : ACode :=
 .seq (oR ([oT 11 5,
 oT 12 0,
 oN 13 12,
 oB 14 .lss 11 13])
 (.cond (.t 14)
 .skip
 (.exit 0)))
 (.seq (.block 1 (.seq (.draw 5 [oT 17 0,
 oT 18 5,
 oO 19 (.iaddr 3 (.t 17) (.t 18)),
 oG 20 3 19,
 oT 21 1,
 oT 22 5,
 oO 23 (.iaddr 3 (.t 21) (.t 22)),
 oG 24 3 23,
 oO 25 (.aeq true 3 (.t 20) (.t 24))])
 (.cond (.t 25)
 (oR ([oM 4 (.c (.bool false))])
 .ret)
 .skip)))
 (.region [oT 15 5,
 oA 16 .add 15 (.c (oI 1)),
 oT 5 16]))
def xZ2 : ACode := xT9
def xRi : List Nat := [2,3,6,7,8,9,10,11,12,13,14,15,16,17,18,19,20,21,22,23,24,25]
abbrev xRj (s0 s1 s4 s5 : AV) : List AV := [s0,s1,oE,oE,s4,s5,oE,oE,oE,oE,oE,oE,oE,oE,oE,oE,oE,oE,oE,oE,oE,oE,oE,oE,oE,oE]
theorem xXe (a b c d e f g h i j k l m n o p q r s t u v w x y z : AV) : xAH xRi [a,b,c,d,e,f,g,h,i,j,k,l,m,n,o,p,q,r,s,t,u,v,w,x,y,z] = xRj a b e f := by kernel_rfl
theorem yBx {prog : Nat → Option AFunc} (s0 s1 s4 s5 : AV) (H : Heap) : (lim prog).loop xRi xZ2 ⟨xRj s0 s1 s4 s5,H⟩ = xDR (lim prog) xRi xZ2 (run (lim prog) xT9 ⟨xRj s0 s1 s4 s5,H⟩) := xAe _ _ _ _ (by kernel_rfl)
def a26 : AFunc := ⟨26,
 oR ([oM 4 (.c (.bool false))])
 (.seq (oR ([oT 6 0,
 oN 7 6,
 oT 8 1,
 oN 9 8,
 oB 10 .neq 7 9])
 (.cond (.t 10)
 (oR ([oM 4 (.c (.bool false))])
 .ret)
 .skip))
 (.seq (oR ([oM 5 (.c (oI 0))])
 (.block 0 (.loop xRi xZ2)))
 (oR ([oM 4 (.c (.bool true))])
 .ret))),
 [.tmp 4]⟩
def xRk : ACode :=
 .seq (oR ([oT 3 2,
 oT 4 0,
 oN 5 4,
 oB 6 .lss 3 5])
 (.cond (.t 6)
 .skip
 (.exit 0)))
 (.seq (.block 1 (.region [oT 9 0,
 oT 10 2,
 oO 11 (.iaddr 1 (.t 9) (.t 10)),
 ⟨none,.store 1 (.t 11) (.c (.int .u64 77)),none⟩]))
 (.region [oT 7 2,
 oA 8 .add 7 (.c (oI 1)),
 oT 2 8]))
def xZ3 : ACode := xRk
def xRl : List Nat := [1,3,4,5,6,7,8,9,10,11]
abbrev xRm (s0 s2 : AV) : List AV := [s0,oE,s2,oE,oE,oE,oE,oE,oE,oE,oE,oE]
theorem xUa (a b c d e f g h i j k l : AV) : xAH xRl [a,b,c,d,e,f,g,h,i,j,k,l] = xRm a c := by kernel_rfl
theorem xXf {prog : Nat → Option AFunc} (s0 s2 : AV) (H : Heap) : (lim prog).loop xRl xZ3 ⟨xRm s0 s2,H⟩ = xDR (lim prog) xRl xZ3 (run (lim prog) xRk ⟨xRm s0 s2,H⟩) := xAe _ _ _ _ (by kernel_rfl)
def a27 : AFunc := ⟨12,
 oR ([oM 2 (.c (oI 0))])
 (.block 0 (.loop xRl xZ3)),
 []⟩
def a28 : AFunc := ⟨11,
 oR ([oX 1 (.t 0)])
 (oR ([oF 2 2 1,
 oH 3 1 2,
 oO 4 (.icall (.c (.func 62 [])) [.t 3])])
 (oR ([oF 5 3 1,
 oH 6 1 5,
 oO 7 (.icall (.c (.func 62 [])) [.t 6])])
 (.region [oF 8 4 1,
 oH 9 1 8,
 oO 10 (.icall (.c (.func 63 [])) [.t 9])]))),
 []⟩
def a29 : AFunc := ⟨181,
 oR ([oM 0 (.c (.bool false))])
 (oR ([oO 16 (.call 32 []),
 oX 1 (.c (.agg [oI 0,oI 0,oS,oS,oS])),
 ⟨none,.store 5 (.t 1) (.t 16),none⟩])
 (.seq (.seq (.draw 37 [oG 17 5 1,
 oO 18 (.bslice true [oI 0] 1 1 [(0,(.c (oI 0)))]),
 ⟨some 19,.call 64 [.t 17,(.c (.str ⟨#[45]⟩)),.t 18],none⟩,
 oO 20 (.un .not (.t 19)),
 oT 21 20,
 ⟨some 22,.load true 5 (.t 1),some (21,false)⟩,
 ⟨some 23,.bslice true [oI 0] 1 2 [(0,(.c (oI 0))),(1,(.c (oI 1)))],some (21,false)⟩,
 ⟨some 24,.call 64 [.t 22,(.c (.str ⟨#[40,49,32,45,32,45,41]⟩)),.t 23],some (21,false)⟩,
 ⟨some 25,.un .not (.t 24),some (21,false)⟩,
 oO 26 (.pick (.t 21) (.c (.bool true)) (.t 25)),
 oT 27 26,
 ⟨some 28,.load true 5 (.t 1),some (27,false)⟩,
 ⟨some 29,.bslice true [oI 0] 1 1 [(0,(.c (oI 0)))],some (27,false)⟩,
 ⟨some 30,.call 64 [.t 28,(.c (.str ⟨#[40,50,32,45,32,45,41]⟩)),.t 29],some (27,false)⟩,
 ⟨some 31,.un .not (.t 30),some (27,false)⟩,
 oO 32 (.pick (.t 27) (.c (.bool true)) (.t 31)),
 oT 33 32,
 ⟨some 34,.load true 5 (.t 1),some (33,false)⟩,
 ⟨some 35,.bslice true [oI 0] 1 2 [(0,(.c (oI 0))),(1,(.c (oI 1)))],some (33,false)⟩,
 ⟨some 36,.call 64 [.t 34,(.c (.str ⟨#[40,48,32,40,49,32,45,32,45,41,32,45,41]⟩)),.t 35],some (33,false)⟩,
 ⟨some 37,.un .not (.t 36),some (33,false)⟩,
 oO 38 (.pick (.t 33) (.c (.bool true)) (.t 37)),
 oT 39 38,
 ⟨some 40,.load true 5 (.t 1),some (39,false)⟩,
 ⟨some 41,.bslice true [oI 0] 1 2 [(0,(.c (oI 0))),(1,(.c (oI 1)))],some (39,false)⟩,
 ⟨some 42,.call 64 [.t 40,(.c (.str ⟨#[40,49,32,40,49,32,45,32,45,41,32,40,48,32,45,32,45,41,41]⟩)),.t 41],some (39,false)⟩,
 ⟨some 43,.un .not (.t 42),some (39,false)⟩,
 oO 44 (.pick (.t 39) (.c (.bool true)) (.t 43)),
 oT 45 44,
 ⟨some 46,.load true 5 (.t 1),some (45,false)⟩,
 ⟨some 47,.call 66 [(.c (.str ⟨#[40,50,32,40,51,32,45,32,45,41,32,45,41]⟩))],some (45,false)⟩,
 ⟨some 48,.call 65 [.t 46,.t 47,(.c (.bool true))],some (45,false)⟩,
 ⟨some 49,.un .not (.t 48),some (45,false)⟩,
 oO 50 (.pick (.t 45) (.c (.bool true)) (.t 49)),
 oT 51 50,
 ⟨some 52,.load true 5 (.t 1),some (51,false)⟩,
 ⟨some 53,.call 66 [(.c (.str ⟨#[40,50,32,45,32,45,41]⟩))],some (51,false)⟩,
 ⟨some 54,.call 65 [.t 52,.t 53,(.c (.bool false))],some (51,false)⟩,
 ⟨some 55,.un .not (.t 54),some (51,false)⟩,
 oO 56 (.pick (.t 51) (.c (.bool true)) (.t 55)),
 oT 57 56,
 ⟨some 58,.load true 5 (.t 1),some (57,false)⟩,
 ⟨some 59,.call 65 [.t 58,(.c (oS)),(.c (.bool false))],some (57,false)⟩,
 ⟨some 60,.un .not (.t 59),some (57,false)⟩,
 oO 61 (.pick (.t 57) (.c (.bool true)) (.t 60))])
 (.cond (.t 61)
 (oR ([oM 0 (.c (.bool false))])
 .ret)
 .skip))
 (oR ([oG 63 5 1,
 oO 64 (.call 20 [.t 63]),
 oT 62 64,
 oO 65 (.ext 0 (.t 62)),
 oO 66 (.ext 1 (.t 62)),
 oT 2 65,
 oT 3 66])
 (oR ([oG 68 5 1,
 oO 69 (.call 22 [.t 68]),
 oT 67 69,
 oO 70 (.ext 0 (.t 67)),
 oO 71 (.ext 1 (.t 67)),
 oX 4 (.c (.agg [oI 0,oI 0,oS,oS,oS])),
 ⟨none,.store 5 (.t 4) (.t 70),none⟩,
 oT 5 71])
 (oR ([oO 72 (.call 32 []),
 oX 6 (.c (.agg [oI 0,oI 0,oS,oS,oS])),
 ⟨none,.store 5 (.t 6) (.t 72),none⟩])
 (oR ([oO 73 (.bslice true [oI 0] 1 1 [(0,(.c (oI 0)))]),
 oF 74 3 6,
 ⟨none,.store 1 (.t 74) (.t 73),none⟩])
 (oR ([oG 76 5 6,
 oO 77 (.call 22 [.t 76]),
 oT 75 77,
 oO 78 (.ext 0 (.t 75)),
 oO 79 (.ext 1 (.t 75)),
 oX 7 (.c (.agg [oI 0,oI 0,oS,oS,oS])),
 ⟨none,.store 5 (.t 7) (.t 78),none⟩,
 oT 8 79])
 (.seq (oR ([oT 80 2,
 oO 81 (.bslice true [oI 0] 1 2 [(0,(.c (oI 0))),(1,(.c (oI 1)))]),
 oO 82 (.call 36 [.t 81]),
 oO 83 (.call 42 [.t 80,.t 82]),
 oO 84 (.un .not (.t 83)),
 oT 85 84,
 ⟨some 86,.mov (.t 3),some (85,false)⟩,
 ⟨some 87,.bin .neq (.t 86) (.c (oI 0)),some (85,false)⟩,
 oO 88 (.pick (.t 85) (.c (.bool true)) (.t 87)),
 oT 89 88,
 ⟨some 90,.load true 5 (.t 1),some (89,false)⟩,
 ⟨some 91,.load true 5 (.t 4),some (89,false)⟩,
 ⟨some 92,.call 25 [.t 90,.t 91],some (89,false)⟩,
 ⟨some 93,.un .not (.t 92),some (89,false)⟩,
 oO 94 (.pick (.t 89) (.c (.bool true)) (.t 93)),
 oT 95 94,
 ⟨some 96,.mov (.t 5),some (95,false)⟩,
 ⟨some 97,.bin .neq (.t 96) (.c (oI 0)),some (95,false)⟩,
 oO 98 (.pick (.t 95) (.c (.bool true)) (.t 97)),
 oT 99 98,
 ⟨some 100,.load true 5 (.t 7),some (99,false)⟩,
 ⟨some 101,.bslice true [oI 0] 1 1 [(0,(.c (oI 0)))],some (99,false)⟩,
 ⟨some 102,.bslice true [oI 0] 1 1 [(0,(.c (oI 0)))],some (99,false)⟩,
 ⟨some 103,.build [oI 0,oI 0,oI 0,.int .u8 0,.int .u8 0] [],some (99,false)⟩,
 ⟨some 104,.bslice true [oI 0,oI 0,oI 0,.int .u8 0,.int .u8 0] 5 1 [(0,.t 103)],some (99,false)⟩,
 ⟨some 105,.build [oI 0,oI 0,oS,oS,oS] [(0,1,(.c (oI 2))),(1,1,(.c (oI 1))),(2,1,.t 101),(3,1,.t 102),(4,1,.t 104)],some (99,false)⟩,
 ⟨some 106,.call 25 [.t 100,.t 105],some (99,false)⟩,
 ⟨some 107,.un .not (.t 106),some (99,false)⟩,
 oO 108 (.pick (.t 99) (.c (.bool true)) (.t 107)),
 oT 109 108,
 ⟨some 110,.mov (.t 8),some (109,false)⟩,
 ⟨some 111,.bin .neq (.t 110) (.c (oI 0)),some (109,false)⟩,
 oO 112 (.pick (.t 109) (.c (.bool true)) (.t 111))])
 (.cond (.t 112)
 (oR ([oM 0 (.c (.bool false))])
 .ret)
 .skip))
 (oR ([oO 113 (.ocall 32 []),
 oO 114 (.ocall 32 []),
 oO 115 (.ocall 32 []),
 oX 9 (.c (.agg [oI 0,oI 0,oS,oS,oS])),
 oX 10 (.c (.agg [oI 0,oI 0,oS,oS,oS])),
 oX 11 (.c (.agg [oI 0,oI 0,oS,oS,oS])),
 ⟨none,.store 5 (.t 9) (.t 113),none⟩,
 ⟨none,.store 5 (.t 10) (.t 114),none⟩,
 ⟨none,.store 5 (.t 11) (.t 115),none⟩])
 (oR ([oO 116 (.bslice true [oI 0] 1 2 [(0,(.c (oI 0))),(1,(.c (oI 0)))]),
 oF 117 2 9,
 ⟨none,.store 1 (.t 117) (.t 116),none⟩])
 (oR ([oO 118 (.bslice true [oI 0] 1 1 [(0,(.c (oI 2)))]),
 oF 119 3 10,
 ⟨none,.store 1 (.t 119) (.t 118),none⟩])
 (oR ([oF 120 4 11,
 oH 121 1 120,
 oO 122 (.iaddr 5 (.t 121) (.c (oI 0))),
 oF 123 4 122,
 ⟨none,.store 1 (.t 123) (.c (.int .u8 1)),none⟩])
 (oR ([oG 125 5 1,
 oO 126 (.build [.int .u8 0,oI 0,oI 0] [(0,1,(.c (.int .u8 4))),(1,1,(.c (.int .i64 (-1)))),(2,1,(.c (.int .i64 (-1))))]),
 oO 127 (.bslice true [.int .u8 0,oI 0,oI 0] 3 1 [(0,.t 126)]),
 oO 128 (.call 16 [.t 125,.t 127]),
 oT 124 128,
 oO 129 (.ext 0 (.t 124)),
 oO 130 (.ext 1 (.t 124)),
 oT 12 129,
 oT 13 130])
 (oR ([oG 132 5 1,
 oG 133 5 1,
 oO 134 (.call 30 [.t 132,.t 133]),
 oT 131 134,
 oO 135 (.ext 0 (.t 131)),
 oO 136 (.ext 1 (.t 131)),
 oX 14 (.c (.agg [oI 0,oI 0,oS,oS,oS])),
 ⟨none,.store 5 (.t 14) (.t 135),none⟩,
 oT 15 136])
 (oR ([oG 137 5 9,
 oO 138 (.call 14 [.t 137]),
 oA 139 .eql 138 (.c (oI 8)),
 oT 140 139,
 ⟨some 141,.load true 5 (.t 10),some (140,true)⟩,
 ⟨some 142,.call 14 [.t 141],some (140,true)⟩,
 ⟨some 143,.bin .eql (.t 142) (.c (oI 8)),some (140,true)⟩,
 oO 144 (.pick (.t 140) (.t 143) (.c (.bool false))),
 oT 145 144,
 ⟨some 146,.load true 5 (.t 11),some (145,true)⟩,
 ⟨some 147,.call 14 [.t 146],some (145,true)⟩,
 ⟨some 148,.bin .eql (.t 147) (.c (oI 2)),some (145,true)⟩,
 oO 149 (.pick (.t 145) (.t 148) (.c (.bool false))),
 oT 150 149,
 ⟨some 151,.mov (.t 13),some (150,true)⟩,
 ⟨some 152,.bin .eql (.t 151) (.c (oI 1)),some (150,true)⟩,
 oO 153 (.pick (.t 150) (.t 152) (.c (.bool false))),
 oT 154 153,
 ⟨some 155,.mov (.t 15),some (154,true)⟩,
 ⟨some 156,.bin .eql (.t 155) (.c (oI 0)),some (154,true)⟩,
 oO 157 (.pick (.t 154) (.t 156) (.c (.bool false))),
 oT 158 157,
 ⟨some 159,.faddr 1 (.t 14),some (158,true)⟩,
 ⟨some 160,.load false 1 (.t 159),some (158,true)⟩,
 ⟨some 161,.bin .eql (.t 160) (.c (oI 4)),some (158,true)⟩,
 oO 162 (.pick (.t 158) (.t 161) (.c (.bool false))),
 oT 163 162,
 ⟨some 164,.faddr 2 (.t 14),some (163,true)⟩,
 ⟨some 165,.load false 1 (.t 164),some (163,true)⟩,
 ⟨some 166,.bslice true [oI 0] 1 2 [(0,(.c (oI 0))),(1,(.c (oI 2)))],some (163,true)⟩,
 ⟨some 167,.call 60 [.t 165,.t 166],some (163,true)⟩,
 oO 168 (.pick (.t 163) (.t 167) (.c (.bool false))),
 oT 169 168,
 ⟨some 170,.faddr 3 (.t 14),some (169,true)⟩,
 ⟨some 171,.load false 1 (.t 170),some (169,true)⟩,
 ⟨some 172,.bslice true [oI 0] 1 2 [(0,(.c (oI 1))),(1,(.c (oI 3)))],some (169,true)⟩,
 ⟨some 173,.call 60 [.t 171,.t 172],some (169,true)⟩,
 oO 174 (.pick (.t 169) (.t 173) (.c (.bool false))),
 oT 175 174,
 ⟨some 176,.faddr 4 (.t 14),some (175,true)⟩,
 ⟨some 177,.load false 1 (.t 176),some (175,true)⟩,
 ⟨some 178,.len (.t 177),some (175,true)⟩,
 ⟨some 179,.bin .eql (.t 178) (.c (oI 8)),some (175,true)⟩,
 oO 180 (.pick (.t 175) (.t 179) (.c (.bool false))),
 oT 0 180])
 .ret))))))))))))))),
 [.tmp 0]⟩
def xNZ : ACode :=
 oR ([oA 16 .lss 15 (.c (oI 2))])
 (.seq (.cond (.t 16)
 .skip
 (.exit 0))
 (.seq (.block 1 (oR ([oO 17 (.idx true 5 2 (.t 14) (.t 15)),
 oX 7 (.c (.agg [oI 0,oI 0,oS,oS,oS])),
 ⟨none,.store 5 (.t 7) (.t 17),none⟩])
 (oR ([oG 18 5 7,
 oO 19 (.call 14 [.t 18]),
 oT 8 19])
 (oR ([oT 20 8,
 oA 21 .neq 20 (.c (oI 0))])
 (.cond (.t 21)
 (oR ([oO 22 (.build [oI 0,oI 0,oS,oS,oS] []),
 oT 23 8,
 ⟨none,.store 5 (.t 4) (.t 22),none⟩,
 oT 5 23])
 .ret)
 .skip)))))
 (.region [oA 24 .add 15 (.c (oI 1)),
 oT 15 24])))
def xXg : ACode := xNZ
def xO7 : List Nat := [0,1,6,7,8,9,10,11,12,13,16,17,18,19,20,21,22,23,24,25,26,27,28,29,30,31,32,33,34,35,36,37,38,39,40,41,42,43,44,45,46,47,48,49,50,51,52,53,54,55,56,57,58,59,60,61,62,63,64,65,66,67,68,69,70,71,72,73,74,75,76,77,78,79,80,81,82,83,84,85,86,87,88,89,90,91,92,93,94]
abbrev xM9 (s2 s3 s4 s5 s14 s15 : AV) : List AV := [oE,oE,s2,s3,s4,s5,oE,oE,oE,oE,oE,oE,oE,oE,s14,s15,oE,oE,oE,oE,oE,oE,oE,oE,oE,oE,oE,oE,oE,oE,oE,oE,oE,oE,oE,oE,oE,oE,oE,oE,oE,oE,oE,oE,oE,oE,oE,oE,oE,oE,oE,oE,oE,oE,oE,oE,oE,oE,oE,oE,oE,oE,oE,oE,oE,oE,oE,oE,oE,oE,oE,oE,oE,oE,oE,oE,oE,oE,oE,oE,oE,oE,oE,oE,oE,oE,oE,oE,oE,oE,oE,oE,oE,oE,oE]
theorem xLd (a b c d e f g h i j k l m n o p q r s t u v w x y z A B C D E F G H I J K L M N O P Q R S T U V W X Y Z a0 a1 a2 a3 a4 a5 a6 a7 a8 a9 b0 b1 b2 b3 b4 b5 b6 b7 b8 b9 c0 c1 c2 c3 c4 c5 c6 c7 c8 c9 d0 d1 d2 d3 d4 d5 d6 d7 d8 d9 e0 e1 e2 : AV) : xAH xO7 [a,b,c,d,e,f,g,h,i,j,k,l,m,n,o,p,q,r,s,t,u,v,w,x,y,z,A,B,C,D,E,F,G,H,I,J,K,L,M,N,O,P,Q,R,S,T,U,V,W,X,Y,Z,a0,a1,a2,a3,a4,a5,a6,a7,a8,a9,b0,b1,b2,b3,b4,b5,b6,b7,b8,b9,c0,c1,c2,c3,c4,c5,c6,c7,c8,c9,d0,d1,d2,d3,d4,d5,d6,d7,d8,d9,e0,e1,e2] = xM9 c d e f o p := by kernel_rfl
theorem xXh {prog : Nat → Option AFunc} (s2 s3 s4 s5 s14 s15 : AV) (H : Heap) : (lim prog).loop xO7 xXg ⟨xM9 s2 s3 s4 s5 s14 s15,H⟩ = xDR (lim prog) xO7 xXg (run (lim prog) xNZ ⟨xM9 s2 s3 s4 s5 s14 s15,H⟩) := xAe _ _ _ _ (by kernel_rfl)
def xUb : ACode :=
 oR ([oB 56 .lss 55 54])
 (.seq (.cond (.t 56)
 .skip
 (.exit 3))
 (.seq (.block 4 (oR ([oT 57 55,
 oT 10 57])
 (.region [oT 58 9,
 oT 59 10,
 oF 60 1 2,
 oH 61 1 60,
 oT 62 10,
 oB 63 .add 61 62,
 oO 64 (.iaddr 1 (.t 58) (.t 59)),
 ⟨none,.store 1 (.t 64) (.t 63),none⟩])))
 (.region [oA 65 .add 55 (.c (oI 1)),
 oT 55 65])))
def xZ4 : ACode := xUb
def xRn : List Nat := [0,1,5,6,7,8,10,11,12,13,14,15,16,17,18,19,20,21,22,23,24,25,26,27,28,29,30,31,32,33,34,35,36,37,38,39,40,41,42,43,44,45,46,47,48,49,50,51,52,53,56,57,58,59,60,61,62,63,64,65,66,67,68,69,70,71,72,73,74,75,76,77,78,79,80,81,82,83,84,85,86,87,88,89,90,91,92,93,94]
abbrev xRo (s2 s3 s4 s9 s54 s55 : AV) : List AV := [oE,oE,s2,s3,s4,oE,oE,oE,oE,s9,oE,oE,oE,oE,oE,oE,oE,oE,oE,oE,oE,oE,oE,oE,oE,oE,oE,oE,oE,oE,oE,oE,oE,oE,oE,oE,oE,oE,oE,oE,oE,oE,oE,oE,oE,oE,oE,oE,oE,oE,oE,oE,oE,oE,s54,s55,oE,oE,oE,oE,oE,oE,oE,oE,oE,oE,oE,oE,oE,oE,oE,oE,oE,oE,oE,oE,oE,oE,oE,oE,oE,oE,oE,oE,oE,oE,oE,oE,oE,oE,oE,oE,oE,oE,oE]
theorem xXi (a b c d e f g h i j k l m n o p q r s t u v w x y z A B C D E F G H I J K L M N O P Q R S T U V W X Y Z a0 a1 a2 a3 a4 a5 a6 a7 a8 a9 b0 b1 b2 b3 b4 b5 b6 b7 b8 b9 c0 c1 c2 c3 c4 c5 c6 c7 c8 c9 d0 d1 d2 d3 d4 d5 d6 d7 d8 d9 e0 e1 e2 : AV) : xAH xRn [a,b,c,d,e,f,g,h,i,j,k,l,m,n,o,p,q,r,s,t,u,v,w,x,y,z,A,B,C,D,E,F,G,H,I,J,K,L,M,N,O,P,Q,R,S,T,U,V,W,X,Y,Z,a0,a1,a2,a3,a4,a5,a6,a7,a8,a9,b0,b1,b2,b3,b4,b5,b6,b7,b8,b9,c0,c1,c2,c3,c4,c5,c6,c7,c8,c9,d0,d1,d2,d3,d4,d5,d6,d7,d8,d9,e0,e1,e2] = xRo c d e j a2 a3 := by kernel_rfl
theorem yBy {prog : Nat → Option AFunc} (s2 s3 s4 s9 s54 s55 : AV) (H : Heap) : (lim prog).loop xRn xZ4 ⟨xRo s2 s3 s4 s9 s54 s55,H⟩ = xDR (lim prog) xRn xZ4 (run (lim prog) xUb ⟨xRo s2 s3 s4 s9 s54 s55,H⟩) := xAe _ _ _ _ (by kernel_rfl)
def a30 : AFunc := ⟨95,
 oR ([oX 2 (.t 0),
 oX 3 (.t 1),
 oX 4 (.c (.agg [oI 0,oI 0,oS,oS,oS])),
 oM 5 (.c (oI 0))])
 (.seq (oR ([oG 12 5 2,
 oG 13 5 3,
 oO 14 (.build [oI 0,oI 0,oS,oS,oS,oI 0,oI 0,oS,oS,oS] [(0,5,.t 12),(5,5,.t 13)]),
 oM 15 (.c (oI 0))])
 (.block 0 (.loop xO7 xXg)))
 (.seq (.block 2 (oR ([oF 26 0 2,
 oH 27 1 26,
 oF 28 0 3,
 oH 29 1 28,
 oB 30 .neq 27 29,
 oT 25 30])
 (.cond (.t 25)
 (oR ([oO 31 (.build [oI 0,oI 0,oS,oS,oS] []),
 ⟨none,.store 5 (.t 4) (.t 31),none⟩,
 oM 5 (.c (oI 7))])
 .ret)
 (oR ([oF 33 1 2,
 oH 34 1 33,
 oF 35 1 3,
 oH 36 1 35,
 oB 37 .add 34 36,
 oA 38 .gtr 37 (.c (oI 64)),
 oT 39 38,
 ⟨some 40,.faddr 4 (.t 2),some (39,false)⟩,
 ⟨some 41,.load false 1 (.t 40),some (39,false)⟩,
 ⟨some 42,.len (.t 41),some (39,false)⟩,
 ⟨some 43,.faddr 4 (.t 3),some (39,false)⟩,
 ⟨some 44,.load false 1 (.t 43),some (39,false)⟩,
 ⟨some 45,.len (.t 44),some (39,false)⟩,
 ⟨some 46,.bin .add (.t 42) (.t 45),some (39,false)⟩,
 ⟨some 47,.bin .gtr (.t 46) (.c (oI 512)),some (39,false)⟩,
 oO 48 (.pick (.t 39) (.c (.bool true)) (.t 47)),
 oT 32 48])
 (.cond (.t 32)
 (oR ([oO 49 (.build [oI 0,oI 0,oS,oS,oS] []),
 ⟨none,.store 5 (.t 4) (.t 49),none⟩,
 oM 5 (.c (oI 4))])
 .ret)
 .skip)))))
 (oR ([oF 50 1 3,
 oH 51 1 50,
 oO 52 (.mkslice false [oI 0] 8 (.t 51) (.t 51)),
 oT 9 52])
 (.seq (oR ([oT 53 9,
 oN 54 53,
 oM 55 (.c (oI 0))])
 (.block 3 (.loop xRn xZ4)))
 (oR ([oG 66 5 3,
 oT 67 9,
 oO 68 (.call 58 [.t 66,.t 67]),
 oX 11 (.c (.agg [oI 0,oI 0,oS,oS,oS])),
 ⟨none,.store 5 (.t 11) (.t 68),none⟩])
 (.seq (.drawp [] [] 25 [oF 69 0 2,
 oH 70 1 69,
 oF 71 1 2,
 oH 72 1 71,
 oF 73 1 3,
 oH 74 1 73,
 oB 75 .add 72 74,
 oF 76 2 2,
 oH 77 1 76,
 oF 78 2 11,
 oH 79 1 78,
 oO 80 (.bslice true [oS] 1 2 [(0,.t 77),(1,.t 79)]),
 oO 81 (.ocall 67 [.t 80]),
 oF 82 3 2,
 oH 83 1 82,
 oF 84 3 11,
 oH 85 1 84,
 oO 86 (.bslice true [oS] 1 2 [(0,.t 83),(1,.t 85)]),
 oO 87 (.ocall 67 [.t 86]),
 oF 88 4 2,
 oH 89 1 88,
 oF 90 4 11,
 oH 91 1 90,
 oO 92 (.bslice true [oS] 1 2 [(0,.t 89),(1,.t 91)]),
 oO 93 (.ocall 68 [.t 92]),
 oO 94 (.build [oI 0,oI 0,oS,oS,oS] [(0,1,.t 70),(1,1,.t 75),(2,1,.t 81),(3,1,.t 87),(4,1,.t 93)]),
 ⟨none,.store 5 (.t 4) (.t 94),none⟩,
 oM 5 (.c (oI 0))])
 .ret)))))),
 [.cell 4 true 5,.tmp 5]⟩
def xUc : ACode :=
 .seq (oR ([oT 56 9,
 oF 57 2 3,
 oH 58 1 57,
 oN 59 58,
 oB 60 .lss 56 59])
 (.cond (.t 60)
 .skip
 (.exit 0)))
 (.seq (.block 1 (.draw 7 [oF 63 2 8,
 oH 64 1 63,
 oF 65 2 3,
 oH 66 1 65,
 oT 67 9,
 oO 68 (.iaddr 1 (.t 66) (.t 67)),
 oH 69 1 68,
 oF 70 1 2,
 oH 71 1 70,
 oB 72 .add 69 71,
 oO 73 (.bslice true [oI 0] 1 1 [(0,.t 72)]),
 oO 74 (.append false 1 8 (.t 64) (.t 73)),
 oF 75 2 8,
 ⟨none,.store 1 (.t 75) (.t 74),none⟩]))
 (.region [oT 61 9,
 oA 62 .add 61 (.c (oI 1)),
 oT 9 62]))
def xZ5 : ACode := xUc
def xRp : List Nat := [0,1,5,6,7,10,11,12,13,14,15,16,17,18,19,20,21,22,23,24,25,26,27,28,29,30,31,32,33,34,35,36,37,38,39,40,41,42,43,44,45,46,47,48,49,50,51,52,53,54,55,56,57,58,59,60,61,62,63,64,65,66,67,68,69,70,71,72,73,74,75,76,77,78,79,80,81,82,83,84,85,86,87,88,89,90,91,92,93,94,95,96,97,98,99,100,101,102,103,104,105,106,107,108,109,110,111,112,113,114,115,116,117,118,119,120,121,122,123,124,125,126,127,128,129,130,131,132,133]
abbrev xRq (s2 s3 s4 s8 s9 : AV) : List AV := [oE,oE,s2,s3,s4,oE,oE,oE,s8,s9,oE,oE,oE,oE,oE,oE,oE,oE,oE,oE,oE,oE,oE,oE,oE,oE,oE,oE,oE,oE,oE,oE,oE,oE,oE,oE,oE,oE,oE,oE,oE,oE,oE,oE,oE,oE,oE,oE,oE,oE,oE,oE,oE,oE,oE,oE,oE,oE,oE,oE,oE,oE,oE,oE,oE,oE,oE,oE,oE,oE,oE,oE,oE,oE,oE,oE,oE,oE,oE,oE,oE,oE,oE,oE,oE,oE,oE,oE,oE,oE,oE,oE,oE,oE,oE,oE,oE,oE,oE,oE,oE,oE,oE,oE,oE,oE,oE,oE,oE,oE,oE,oE,oE,oE,oE,oE,oE,oE,oE,oE,oE,oE,oE,oE,oE,oE,oE,oE,oE,oE,oE,oE,oE,oE]
theorem xXj (a b c d e f g h i j k l m n o p q r s t u v w x y z A B C D E F G H I J K L M N O P Q R S T U V W X Y Z a0 a1 a2 a3 a4 a5 a6 a7 a8 a9 b0 b1 b2 b3 b4 b5 b6 b7 b8 b9 c0 c1 c2 c3 c4 c5 c6 c7 c8 c9 d0 d1 d2 d3 d4 d5 d6 d7 d8 d9 e0 e1 e2 e3 e4 e5 e6 e7 e8 e9 f0 f1 f2 f3 f4 f5 f6 f7 f8 f9 g0 g1 g2 g3 g4 g5 g6 g7 g8 g9 h0 h1 h2 h3 h4 h5 h6 h7 h8 h9 i0 i1 : AV) : xAH xRp [a,b,c,d,e,f,g,h,i,j,k,l,m,n,o,p,q,r,s,t,u,v,w,x,y,z,A,B,C,D,E,F,G,H,I,J,K,L,M,N,O,P,Q,R,S,T,U,V,W,X,Y,Z,a0,a1,a2,a3,a4,a5,a6,a7,a8,a9,b0,b1,b2,b3,b4,b5,b6,b7,b8,b9,c0,c1,c2,c3,c4,c5,c6,c7,c8,c9,d0,d1,d2,d3,d4,d5,d6,d7,d8,d9,e0,e1,e2,e3,e4,e5,e6,e7,e8,e9,f0,f1,f2,f3,f4,f5,f6,f7,f8,f9,g0,g1,g2,g3,g4,g5,g6,g7,g8,g9,h0,h1,h2,h3,h4,h5,h6,h7,h8,h9,i0,i1] = xRq c d e i j := by kernel_rfl
theorem yBz {prog : Nat → Option AFunc} (s2 s3 s4 s8 s9 : AV) (H : Heap) : (lim prog).loop xRp xZ5 ⟨xRq s2 s3 s4 s8 s9,H⟩ = xDR (lim prog) xRp xZ5 (run (lim prog) xUc ⟨xRq s2 s3 s4 s8 s9,H⟩) := xAe _ _ _ _ (by kernel_rfl)
def xUd : ACode :=
 .seq (oR ([oT 76 10,
 oF 77 3 3,
 oH 78 1 77,
 oN 79 78,
 oB 80 .lss 76 79])
 (.cond (.t 80)
 .skip
 (.exit 2)))
 (.seq (.block 3 (.draw 7 [oF 83 3 8,
 oH 84 1 83,
 oF 85 3 3,
 oH 86 1 85,
 oT 87 10,
 oO 88 (.iaddr 1 (.t 86) (.t 87)),
 oH 89 1 88,
 oF 90 1 2,
 oH 91 1 90,
 oB 92 .add 89 91,
 oO 93 (.bslice true [oI 0] 1 1 [(0,.t 92)]),
 oO 94 (.append false 1 8 (.t 84) (.t 93)),
 oF 95 3 8,
 ⟨none,.store 1 (.t 95) (.t 94),none⟩]))
 (.region [oT 81 10,
 oA 82 .add 81 (.c (oI 1)),
 oT 10 82]))
def xZ6 : ACode := xUd
def xRr : List Nat := [0,1,5,6,7,9,11,12,13,14,15,16,17,18,19,20,21,22,23,24,25,26,27,28,29,30,31,32,33,34,35,36,37,38,39,40,41,42,43,44,45,46,47,48,49,50,51,52,53,54,55,56,57,58,59,60,61,62,63,64,65,66,67,68,69,70,71,72,73,74,75,76,77,78,79,80,81,82,83,84,85,86,87,88,89,90,91,92,93,94,95,96,97,98,99,100,101,102,103,104,105,106,107,108,109,110,111,112,113,114,115,116,117,118,119,120,121,122,123,124,125,126,127,128,129,130,131,132,133]
abbrev xRs (s2 s3 s4 s8 s10 : AV) : List AV := [oE,oE,s2,s3,s4,oE,oE,oE,s8,oE,s10,oE,oE,oE,oE,oE,oE,oE,oE,oE,oE,oE,oE,oE,oE,oE,oE,oE,oE,oE,oE,oE,oE,oE,oE,oE,oE,oE,oE,oE,oE,oE,oE,oE,oE,oE,oE,oE,oE,oE,oE,oE,oE,oE,oE,oE,oE,oE,oE,oE,oE,oE,oE,oE,oE,oE,oE,oE,oE,oE,oE,oE,oE,oE,oE,oE,oE,oE,oE,oE,oE,oE,oE,oE,oE,oE,oE,oE,oE,oE,oE,oE,oE,oE,oE,oE,oE,oE,oE,oE,oE,oE,oE,oE,oE,oE,oE,oE,oE,oE,oE,oE,oE,oE,oE,oE,oE,oE,oE,oE,oE,oE,oE,oE,oE,oE,oE,oE,oE,oE,oE,oE,oE,oE]
theorem xXk (a b c d e f g h i j k l m n o p q r s t u v w x y z A B C D E F G H I J K L M N O P Q R S T U V W X Y Z a0 a1 a2 a3 a4 a5 a6 a7 a8 a9 b0 b1 b2 b3 b4 b5 b6 b7 b8 b9 c0 c1 c2 c3 c4 c5 c6 c7 c8 c9 d0 d1 d2 d3 d4 d5 d6 d7 d8 d9 e0 e1 e2 e3 e4 e5 e6 e7 e8 e9 f0 f1 f2 f3 f4 f5 f6 f7 f8 f9 g0 g1 g2 g3 g4 g5 g6 g7 g8 g9 h0 h1 h2 h3 h4 h5 h6 h7 h8 h9 i0 i1 : AV) : xAH xRr [a,b,c,d,e,f,g,h,i,j,k,l,m,n,o,p,q,r,s,t,u,v,w,x,y,z,A,B,C,D,E,F,G,H,I,J,K,L,M,N,O,P,Q,R,S,T,U,V,W,X,Y,Z,a0,a1,a2,a3,a4,a5,a6,a7,a8,a9,b0,b1,b2,b3,b4,b5,b6,b7,b8,b9,c0,c1,c2,c3,c4,c5,c6,c7,c8,c9,d0,d1,d2,d3,d4,d5,d6,d7,d8,d9,e0,e1,e2,e3,e4,e5,e6,e7,e8,e9,f0,f1,f2,f3,f4,f5,f6,f7,f8,f9,g0,g1,g2,g3,g4,g5,g6,g7,g8,g9,h0,h1,h2,h3,h4,h5,h6,h7,h8,h9,i0,i1] = xRs c d e i k := by kernel_rfl
theorem yBA {prog : Nat → Option AFunc} (s2 s3 s4 s8 s10 : AV) (H : Heap) : (lim prog).loop xRr xZ6 ⟨xRs s2 s3 s4 s8 s10,H⟩ = xDR (lim prog) xRr xZ6 (run (lim prog) xUd ⟨xRs s2 s3 s4 s8 s10,H⟩) := xAe _ _ _ _ (by kernel_rfl)
def xUe : ACode :=
 .seq (oR ([oT 96 11,
 oF 97 4 3,
 oH 98 1 97,
 oN 99 98,
 oB 100 .lss 96 99])
 (.cond (.t 100)
 .skip
 (.exit 4)))
 (.seq (.block 5 (oR ([oF 103 4 3,
 oH 104 1 103,
 oT 105 11,
 oO 106 (.iaddr 5 (.t 104) (.t 105)),
 oG 107 5 106,
 oX 12 (.c (.agg [oI 0,oI 0,oI 0,.int .u8 0,.int .u8 0])),
 ⟨none,.store 5 (.t 12) (.t 107),none⟩])
 (.region [oF 108 4 8,
 oH 109 1 108,
 oF 110 0 12,
 oH 111 1 110,
 oF 112 1 2,
 oH 113 1 112,
 oB 114 .add 111 113,
 oF 115 1 12,
 oH 116 1 115,
 oF 117 1 2,
 oH 118 1 117,
 oB 119 .add 116 118,
 oF 120 2 12,
 oH 121 1 120,
 oF 122 1 2,
 oH 123 1 122,
 oB 124 .add 121 123,
 oF 125 3 12,
 oH 126 1 125,
 oF 127 4 12,
 oH 128 1 127,
 oO 129 (.build [oI 0,oI 0,oI 0,.int .u8 0,.int .u8 0] [(0,1,.t 114),(1,1,.t 119),(2,1,.t 124),(3,1,.t 126),(4,1,.t 128)]),
 oO 130 (.bslice true [oI 0,oI 0,oI 0,.int .u8 0,.int .u8 0] 5 1 [(0,.t 129)]),
 oO 131 (.append false 5 32 (.t 109) (.t 130)),
 oF 132 4 8,
 ⟨none,.store 1 (.t 132) (.t 131),none⟩])))
 (.region [oT 101 11,
 oA 102 .add 101 (.c (oI 1)),
 oT 11 102]))
def xZ7 : ACode := xUe
def xRt : List Nat := [0,1,5,6,7,9,10,12,13,14,15,16,17,18,19,20,21,22,23,24,25,26,27,28,29,30,31,32,33,34,35,36,37,38,39,40,41,42,43,44,45,46,47,48,49,50,51,52,53,54,55,56,57,58,59,60,61,62,63,64,65,66,67,68,69,70,71,72,73,74,75,76,77,78,79,80,81,82,83,84,85,86,87,88,89,90,91,92,93,94,95,96,97,98,99,100,101,102,103,104,105,106,107,108,109,110,111,112,113,114,115,116,117,118,119,120,121,122,123,124,125,126,127,128,129,130,131,132,133]
abbrev xRu (s2 s3 s4 s8 s11 : AV) : List AV := [oE,oE,s2,s3,s4,oE,oE,oE,s8,oE,oE,s11,oE,oE,oE,oE,oE,oE,oE,oE,oE,oE,oE,oE,oE,oE,oE,oE,oE,oE,oE,oE,oE,oE,oE,oE,oE,oE,oE,oE,oE,oE,oE,oE,oE,oE,oE,oE,oE,oE,oE,oE,oE,oE,oE,oE,oE,oE,oE,oE,oE,oE,oE,oE,oE,oE,oE,oE,oE,oE,oE,oE,oE,oE,oE,oE,oE,oE,oE,oE,oE,oE,oE,oE,oE,oE,oE,oE,oE,oE,oE,oE,oE,oE,oE,oE,oE,oE,oE,oE,oE,oE,oE,oE,oE,oE,oE,oE,oE,oE,oE,oE,oE,oE,oE,oE,oE,oE,oE,oE,oE,oE,oE,oE,oE,oE,oE,oE,oE,oE,oE,oE,oE,oE]
theorem xXl (a b c d e f g h i j k l m n o p q r s t u v w x y z A B C D E F G H I J K L M N O P Q R S T U V W X Y Z a0 a1 a2 a3 a4 a5 a6 a7 a8 a9 b0 b1 b2 b3 b4 b5 b6 b7 b8 b9 c0 c1 c2 c3 c4 c5 c6 c7 c8 c9 d0 d1 d2 d3 d4 d5 d6 d7 d8 d9 e0 e1 e2 e3 e4 e5 e6 e7 e8 e9 f0 f1 f2 f3 f4 f5 f6 f7 f8 f9 g0 g1 g2 g3 g4 g5 g6 g7 g8 g9 h0 h1 h2 h3 h4 h5 h6 h7 h8 h9 i0 i1 : AV) : xAH xRt [a,b,c,d,e,f,g,h,i,j,k,l,m,n,o,p,q,r,s,t,u,v,w,x,y,z,A,B,C,D,E,F,G,H,I,J,K,L,M,N,O,P,Q,R,S,T,U,V,W,X,Y,Z,a0,a1,a2,a3,a4,a5,a6,a7,a8,a9,b0,b1,b2,b3,b4,b5,b6,b7,b8,b9,c0,c1,c2,c3,c4,c5,c6,c7,c8,c9,d0,d1,d2,d3,d4,d5,d6,d7,d8,d9,e0,e1,e2,e3,e4,e5,e6,e7,e8,e9,f0,f1,f2,f3,f4,f5,f6,f7,f8,f9,g0,g1,g2,g3,g4,g5,g6,g7,g8,g9,h0,h1,h2,h3,h4,h5,h6,h7,h8,h9,i0,i1] = xRu c d e i l := by kernel_rfl
theorem yBB {prog : Nat → Option AFunc} (s2 s3 s4 s8 s11 : AV) (H : Heap) : (lim prog).loop xRt xZ7 ⟨xRu s2 s3 s4 s8 s11,H⟩ = xDR (lim prog) xRt xZ7 (run (lim prog) xUe ⟨xRu s2 s3 s4 s8 s11,H⟩) := xAe _ _ _ _ (by kernel_rfl)
def a31 : AFunc := ⟨134,
 oR ([oX 2 (.t 0),
 oX 3 (.t 1),
 oX 4 (.c (.agg [oI 0,oI 0,oS,oS,oS])),
 oM 5 (.c (oI 0))])
 (.seq (oR ([oG 13 5 2,
 oO 14 (.call 15 [.t 13]),
 oT 6 14])
 (oR ([oT 15 6,
 oA 16 .neq 15 (.c (oI 0))])
 (.cond (.t 16)
 (oR ([oO 17 (.build [oI 0,oI 0,oS,oS,oS] []),
 oT 18 6,
 ⟨none,.store 5 (.t 4) (.t 17),none⟩,
 oT 5 18])
 .ret)
 .skip)))
 (.seq (oR ([oG 19 5 3,
 oO 20 (.call 15 [.t 19]),
 oT 7 20])
 (oR ([oT 21 7,
 oA 22 .neq 21 (.c (oI 0))])
 (.cond (.t 22)
 (oR ([oO 23 (.build [oI 0,oI 0,oS,oS,oS] []),
 oT 24 7,
 ⟨none,.store 5 (.t 4) (.t 23),none⟩,
 oT 5 24])
 .ret)
 .skip)))
 (.seq (oR ([oF 25 0 2,
 oH 26 1 25,
 oF 27 0 3,
 oH 28 1 27,
 oB 29 .neq 26 28])
 (.cond (.t 29)
 (oR ([oO 30 (.build [oI 0,oI 0,oS,oS,oS] []),
 ⟨none,.store 5 (.t 4) (.t 30),none⟩,
 oM 5 (.c (oI 7))])
 .ret)
 .skip))
 (.seq (oR ([oF 31 1 2,
 oH 32 1 31,
 oF 33 1 3,
 oH 34 1 33,
 oB 35 .add 32 34,
 oA 36 .gtr 35 (.c (oI 64)),
 oT 37 36,
 ⟨some 38,.faddr 4 (.t 2),some (37,false)⟩,
 ⟨some 39,.load false 1 (.t 38),some (37,false)⟩,
 ⟨some 40,.len (.t 39),some (37,false)⟩,
 ⟨some 41,.faddr 4 (.t 3),some (37,false)⟩,
 ⟨some 42,.load false 1 (.t 41),some (37,false)⟩,
 ⟨some 43,.len (.t 42),some (37,false)⟩,
 ⟨some 44,.bin .add (.t 40) (.t 43),some (37,false)⟩,
 ⟨some 45,.bin .gtr (.t 44) (.c (oI 512)),some (37,false)⟩,
 oO 46 (.pick (.t 37) (.c (.bool true)) (.t 45))])
 (.cond (.t 46)
 (oR ([oO 47 (.build [oI 0,oI 0,oS,oS,oS] []),
 ⟨none,.store 5 (.t 4) (.t 47),none⟩,
 oM 5 (.c (oI 4))])
 .ret)
 .skip))
 (oR ([oG 48 5 2,
 oO 49 (.ocall 33 [.t 48]),
 oX 8 (.c (.agg [oI 0,oI 0,oS,oS,oS])),
 ⟨none,.store 5 (.t 8) (.t 49),none⟩])
 (oR ([oF 50 1 2,
 oH 51 1 50,
 oF 52 1 3,
 oH 53 1 52,
 oB 54 .add 51 53,
 oF 55 1 8,
 ⟨none,.store 1 (.t 55) (.t 54),none⟩])
 (.seq (oR ([oM 9 (.c (oI 0))])
 (.block 0 (.loop xRp xZ5)))
 (.seq (oR ([oM 10 (.c (oI 0))])
 (.block 2 (.loop xRr xZ6)))
 (.seq (oR ([oM 11 (.c (oI 0))])
 (.block 4 (.loop xRt xZ7)))
 (oR ([oG 133 5 8,
 ⟨none,.store 5 (.t 4) (.t 133),none⟩,
 oM 5 (.c (oI 0))])
 .ret)))))))))),
 [.cell 4 true 5,.tmp 5]⟩
def a32 : AFunc := ⟨9,
 oR ([oX 0 (.c (.agg [oI 0,oI 0,oS,oS,oS]))])
 (oR ([oO 1 (.bslice false [oI 0] 1 1 [(0,(.c (oI 0)))]),
 oO 2 (.bslice false [oI 0] 1 1 [(0,(.c (oI 1)))]),
 oO 3 (.build [oI 0,oI 0,oI 0,.int .u8 0,.int .u8 0] [(2,1,(.c (oI 1))),(3,1,(.c (.int .u8 1)))]),
 oO 4 (.build [oI 0,oI 0,oI 0,.int .u8 0,.int .u8 0] [(0,1,(.c (oI 1))),(2,1,(.c (oI 1)))]),
 oO 5 (.build [oI 0,oI 0,oI 0,.int .u8 0,.int .u8 0] [(1,1,(.c (oI 1))),(2,1,(.c (oI 1)))]),
 oO 6 (.build [oI 0,oI 0,oI 0,.int .u8 0,.int .u8 0] []),
 oO 7 (.bslice false [oI 0,oI 0,oI 0,.int .u8 0,.int .u8 0] 5 4 [(0,.t 3),(1,.t 4),(2,.t 5),(3,.t 6)]),
 oO 8 (.build [oI 0,oI 0,oS,oS,oS] [(0,1,(.c (oI 2))),(1,1,(.c (oI 2))),(2,1,.t 1),(3,1,.t 2),(4,1,.t 7)]),
 ⟨none,.store 5 (.t 0) (.t 8),none⟩])
 .ret),
 [.cell 0 true 5]⟩
def a33 : AFunc := ⟨17,
 oR ([oX 1 (.t 0),
 oX 2 (.c (.agg [oI 0,oI 0,oS,oS,oS]))])
 (.seq (.drawp [] [] 13 [oF 3 0 1,
 oH 4 1 3,
 oF 5 1 1,
 oH 6 1 5,
 oF 7 2 1,
 oH 8 1 7,
 oO 9 (.ocall 69 [.t 8]),
 oF 10 3 1,
 oH 11 1 10,
 oO 12 (.ocall 69 [.t 11]),
 oF 13 4 1,
 oH 14 1 13,
 oO 15 (.ocall 70 [.t 14]),
 oO 16 (.build [oI 0,oI 0,oS,oS,oS] [(0,1,.t 4),(1,1,.t 6),(2,1,.t 9),(3,1,.t 12),(4,1,.t 15)]),
 ⟨none,.store 5 (.t 2) (.t 16),none⟩])
 .ret),
 [.cell 2 true 5]⟩
def yEC : ACode :=
 oR ([oB 8 .lss 7 6])
 (.seq (.cond (.t 8)
 .skip
 (.exit 0))
 (.seq (.block 1 (oR ([oO 9 (.iaddr 1 (.t 5) (.t 7)),
 oH 10 1 9,
 oT 4 10])
 (.region [oT 11 2,
 oT 12 4,
 oO 13 (.call 72 [.t 11,.t 12]),
 oT 2 13])))
 (.region [oA 14 .add 7 (.c (oI 1)),
 oT 7 14])))
def yF9 : ACode := yEC
def yED : List Nat := [0,1,3,4,8,9,10,11,12,13,14,15]
def a36 : AFunc := ⟨16,
 oR ([oM 2 (.c (oS))])
 (.seq (oR ([oT 5 0,
 oN 6 5,
 oM 7 (.c (oI 0))])
 (.block 0 (.loop yED yF9)))
 (oR ([oT 15 2,
 oT 2 15])
 .ret)),
 [.tmp 2]⟩
def a41 : AFunc := ⟨18,
 oR ([oM 6 (.c (.bool false))])
 (oR ([oT 7 0,
 oT 8 1,
 oB 9 .and 7 8,
 oT 10 1,
 oB 11 .eql 9 10,
 oT 12 11,
 ⟨some 13,.mov (.t 0),some (12,true)⟩,
 ⟨some 14,.mov (.t 2),some (12,true)⟩,
 ⟨some 15,.bin .and (.t 13) (.t 14),some (12,true)⟩,
 ⟨some 16,.bin .eql (.t 15) (.c (.int .u8 0)),some (12,true)⟩,
 oO 17 (.pick (.t 12) (.t 16) (.c (.bool false))),
 oT 6 17])
 .ret),
 [.tmp 6]⟩
def a42 : AFunc := ⟨10,
 oR ([oM 4 (.c (.bool false))])
 (oR ([oT 5 0,
 oO 6 (.call 73 [.t 5]),
 oT 7 1,
 oO 8 (.call 73 [.t 7]),
 oO 9 (.call 79 [.t 6,.t 8]),
 oT 4 9])
 .ret),
 [.tmp 4]⟩
def xN0 : ACode :=
 oR ([oB 11 .lss 10 9])
 (.seq (.cond (.t 11)
 .skip
 (.exit 0))
 (.seq (.block 1 (oR ([oO 12 (.iaddr 1 (.t 8) (.t 10)),
 oH 13 1 12,
 oT 7 13])
 (.seq (oR ([oT 14 7,
 oT 15 5,
 oB 16 .leq 14 15,
 oT 17 16,
 ⟨some 18,.mov (.t 7),some (17,false)⟩,
 ⟨some 19,.mov (.t 1),some (17,false)⟩,
 ⟨some 20,.bin .geq (.t 18) (.t 19),some (17,false)⟩,
 oO 21 (.pick (.t 17) (.c (.bool true)) (.t 20))])
 (.cond (.t 21)
 (oR ([oM 4 (.c (oI 8))])
 .ret)
 .skip))
 (.region [oT 22 7,
 oT 5 22]))))
 (.region [oA 23 .add 10 (.c (oI 1)),
 oT 10 23])))
def xZ8 : ACode := xN0
def xRv : List Nat := [0,2,3,6,7,11,12,13,14,15,16,17,18,19,20,21,22,23]
abbrev xO8 (s1 s4 s5 s8 s9 s10 : AV) : List AV := [oE,s1,oE,oE,s4,s5,oE,oE,s8,s9,s10,oE,oE,oE,oE,oE,oE,oE,oE,oE,oE,oE,oE,oE]
theorem xN1 (a b c d e f g h i j k l m n o p q r s t u v w x : AV) : xAH xRv [a,b,c,d,e,f,g,h,i,j,k,l,m,n,o,p,q,r,s,t,u,v,w,x] = xO8 b e f i j k := by kernel_rfl
theorem xUf {prog : Nat → Option AFunc} (s1 s4 s5 s8 s9 s10 : AV) (H : Heap) : (lim prog).loop xRv xZ8 ⟨xO8 s1 s4 s5 s8 s9 s10,H⟩ = xDR (lim prog) xRv xZ8 (run (lim prog) xN0 ⟨xO8 s1 s4 s5 s8 s9 s10,H⟩) := xAe _ _ _ _ (by kernel_rfl)
def a44 : AFunc := ⟨24,
 oR ([oM 4 (.c (oI 0))])
 (oR ([oM 5 (.c (.int .i64 (-1)))])
 (.seq (oR ([oT 8 0,
 oN 9 8,
 oM 10 (.c (oI 0))])
 (.block 0 (.loop xRv xZ8)))
 (oR ([oM 4 (.c (oI 0))])
 .ret))),
 [.tmp 4]⟩
def a45 : AFunc := ⟨28,
 oR ([oX 2 (.t 0),
 oM 4 (.c (oI 0))])
 (.seq (.block 0 (.seq (oR ([oT 6 1,
 oA 7 .lss 6 (.c (oI 0)),
 oT 8 7,
 ⟨some 9,.mov (.t 1),some (8,false)⟩,
 ⟨some 10,.bin .gtr (.t 9) (.c (oI 6)),some (8,false)⟩,
 oO 11 (.pick (.t 8) (.c (.bool true)) (.t 10)),
 oT 5 11])
 (.cond (.t 5)
 .skip
 (.draw 6 [oF 12 0 2,
 oH 13 1 12,
 oF 14 1 2,
 oH 15 1 14,
 oB 16 .or 13 15,
 oO 17 (.conv .i64 (.t 16)),
 oT 18 1,
 oO 19 (.bin .shl (.c (oI 1)) (.t 18)),
 oB 20 .geq 17 19,
 oT 5 20])))
 (.cond (.t 5)
 (oR ([oM 4 (.c (oI 7))])
 .ret)
 (oR ([oF 22 0 2,
 oH 23 1 22,
 oF 24 1 2,
 oH 25 1 24,
 oB 26 .and 23 25,
 oA 27 .neq 26 (.c (.int .u8 0)),
 oT 21 27])
 (.cond (.t 21)
 (oR ([oM 4 (.c (oI 2))])
 .ret)
 .skip)))))
 (oR ([oM 4 (.c (oI 0))])
 .ret)),
 [.tmp 4]⟩
def xLH : ACode :=
 .seq (oR ([oT 6 5,
 oT 7 0,
 oN 8 7,
 oB 9 .lss 6 8])
 (.cond (.t 9)
 .skip
 (.exit 0)))
 (.seq (.block 1 (.seq (.draw 26 [oT 12 0,
 oT 13 5,
 oO 14 (.iaddr 1 (.t 12) (.t 13)),
 oH 15 1 14,
 oA 16 .lss 15 (.c (oI 0)),
 oT 17 16,
 ⟨some 18,.mov (.t 0),some (17,false)⟩,
 ⟨some 19,.mov (.t 5),some (17,false)⟩,
 ⟨some 20,.iaddr 1 (.t 18) (.t 19),some (17,false)⟩,
 ⟨some 21,.load false 1 (.t 20),some (17,false)⟩,
 ⟨some 22,.mov (.t 1),some (17,false)⟩,
 ⟨some 23,.bin .geq (.t 21) (.t 22),some (17,false)⟩,
 oO 24 (.pick (.t 17) (.c (.bool true)) (.t 23)),
 oT 25 24,
 ⟨some 26,.mov (.t 5),some (25,false)⟩,
 ⟨some 27,.bin .gtr (.t 26) (.c (oI 0)),some (25,false)⟩,
 ⟨some 28,.mov (.t 27),some (25,false)⟩,
 ⟨some 29,.mov (.t 0),some (28,true)⟩,
 ⟨some 30,.mov (.t 5),some (28,true)⟩,
 ⟨some 31,.iaddr 1 (.t 29) (.t 30),some (28,true)⟩,
 ⟨some 32,.load false 1 (.t 31),some (28,true)⟩,
 ⟨some 33,.mov (.t 0),some (28,true)⟩,
 ⟨some 34,.mov (.t 5),some (28,true)⟩,
 ⟨some 35,.bin .sub (.t 34) (.c (oI 1)),some (28,true)⟩,
 ⟨some 36,.iaddr 1 (.t 33) (.t 35),some (28,true)⟩,
 ⟨some 37,.load false 1 (.t 36),some (28,true)⟩,
 ⟨some 38,.bin .leq (.t 32) (.t 37),some (28,true)⟩,
 ⟨some 39,.pick (.t 28) (.t 38) (.c (.bool false)),some (25,false)⟩,
 oO 40 (.pick (.t 25) (.c (.bool true)) (.t 39))])
 (.cond (.t 40)
 (oR ([oM 4 (.c (oI 8))])
 .ret)
 .skip)))
 (.region [oT 10 5,
 oA 11 .add 10 (.c (oI 1)),
 oT 5 11]))
def xZ9 : ACode := xLH
def xRw : List Nat := [2,3,6,7,8,9,10,11,12,13,14,15,16,17,18,19,20,21,22,23,24,25,26,27,28,29,30,31,32,33,34,35,36,37,38,39,40]
abbrev xO9 (s0 s1 s4 s5 : AV) : List AV := [s0,s1,oE,oE,s4,s5,oE,oE,oE,oE,oE,oE,oE,oE,oE,oE,oE,oE,oE,oE,oE,oE,oE,oE,oE,oE,oE,oE,oE,oE,oE,oE,oE,oE,oE,oE,oE,oE,oE,oE,oE]
theorem xLI (a b c d e f g h i j k l m n o p q r s t u v w x y z A B C D E F G H I J K L M N O : AV) : xAH xRw [a,b,c,d,e,f,g,h,i,j,k,l,m,n,o,p,q,r,s,t,u,v,w,x,y,z,A,B,C,D,E,F,G,H,I,J,K,L,M,N,O] = xO9 a b e f := by kernel_rfl
theorem xPa {prog : Nat → Option AFunc} (s0 s1 s4 s5 : AV) (H : Heap) : (lim prog).loop xRw xZ9 ⟨xO9 s0 s1 s4 s5,H⟩ = xDR (lim prog) xRw xZ9 (run (lim prog) xLH ⟨xO9 s0 s1 s4 s5,H⟩) := xAe _ _ _ _ (by kernel_rfl)
def a46 : AFunc := ⟨41,
 oR ([oM 4 (.c (oI 0))])
 (.seq (oR ([oM 5 (.c (oI 0))])
 (.block 0 (.loop xRw xZ9)))
 (oR ([oM 4 (.c (oI 0))])
 .ret)),
 [.tmp 4]⟩
def a47 : AFunc := ⟨15,
 oR ([oX 2 (.t 0),
 oM 4 (.c (oI 0))])
 (.seq (oR ([oG 6 5 2,
 oO 7 (.call 14 [.t 6]),
 oT 5 7])
 (oR ([oT 8 5,
 oA 9 .neq 8 (.c (oI 0))])
 (.cond (.t 9)
 (oR ([oT 10 5,
 oT 4 10])
 .ret)
 .skip)))
 (oR ([oT 11 1,
 oF 12 0 2,
 oH 13 1 12,
 oO 14 (.call 81 [.t 11,.t 13]),
 oT 4 14])
 .ret)),
 [.tmp 4]⟩
def a48 : AFunc := ⟨6,
 oR ([oM 2 (.c (oS))])
 (oR ([oT 3 0,
 oO 4 (.bslice true [.int .u64 0] 1 1 [(0,.t 3)]),
 oO 5 (.ocall 73 [.t 4]),
 oT 2 5])
 .ret),
 [.tmp 2]⟩
def xN2 : ACode :=
 oR ([oB 41 .lss 40 39])
 (.seq (.cond (.t 41)
 .skip
 (.exit 2))
 (.seq (.block 3 (oR ([oO 42 (.iaddr 5 (.t 38) (.t 40)),
 oG 43 5 42,
 oX 14 (.c (.agg [oI 0,oI 0,oI 0,.int .u8 0,.int .u8 0])),
 ⟨none,.store 5 (.t 14) (.t 43),none⟩])
 (oR ([oT 44 10,
 oF 45 0 14,
 oH 46 1 45,
 oB 47 .shr 44 46,
 oA 48 .and 47 (.c (.int .u64 1)),
 oA 49 .neq 48 (.c (.int .u64 0)),
 oT 50 49,
 ⟨some 51,.mov (.t 11),some (50,true)⟩,
 ⟨some 52,.faddr 1 (.t 14),some (50,true)⟩,
 ⟨some 53,.load false 1 (.t 52),some (50,true)⟩,
 ⟨some 54,.bin .shr (.t 51) (.t 53),some (50,true)⟩,
 ⟨some 55,.bin .and (.t 54) (.c (.int .u64 1)),some (50,true)⟩,
 ⟨some 56,.bin .neq (.t 55) (.c (.int .u64 0)),some (50,true)⟩,
 oO 57 (.pick (.t 50) (.t 56) (.c (.bool false))),
 oT 58 57,
 ⟨some 59,.faddr 3 (.t 14),some (58,true)⟩,
 ⟨some 60,.load false 1 (.t 59),some (58,true)⟩,
 ⟨some 61,.faddr 4 (.t 14),some (58,true)⟩,
 ⟨some 62,.load false 1 (.t 61),some (58,true)⟩,
 ⟨some 63,.build [.int .u8 0,.int .u8 0] [(0,1,.t 60),(1,1,.t 62)],some (58,true)⟩,
 ⟨some 64,.faddr 0 (.t 9),some (58,true)⟩,
 ⟨some 65,.load false 1 (.t 64),some (58,true)⟩,
 ⟨some 66,.call 83 [.t 63,.t 65],some (58,true)⟩,
 oO 67 (.pick (.t 58) (.t 66) (.c (.bool false)))])
 (.cond (.t 67)
 (.region [oT 68 12,
 oF 69 2 14,
 oH 70 1 69,
 oO 71 (.bin .shl (.c (.int .u64 1)) (.t 70)),
 oB 72 .or 68 71,
 oT 12 72])
 .skip))))
 (.region [oA 73 .add 40 (.c (oI 1)),
 oT 40 73])))
def yAa : ACode := xN2
def xRx : List Nat := [0,3,4,13,14,15,16,17,18,19,20,21,22,23,24,25,26,27,28,29,30,31,32,33,34,35,36,37,41,42,43,44,45,46,47,48,49,50,51,52,53,54,55,56,57,58,59,60,61,62,63,64,65,66,67,68,69,70,71,72,73,74,75,76,77,78,79,80,81,82,83,84,85,86]
abbrev xRy (s1 s2 s5 s6 s7 s8 s9 s10 s11 s12 s38 s39 s40 : AV) : List AV := [oE,s1,s2,oE,oE,s5,s6,s7,s8,s9,s10,s11,s12,oE,oE,oE,oE,oE,oE,oE,oE,oE,oE,oE,oE,oE,oE,oE,oE,oE,oE,oE,oE,oE,oE,oE,oE,oE,s38,s39,s40,oE,oE,oE,oE,oE,oE,oE,oE,oE,oE,oE,oE,oE,oE,oE,oE,oE,oE,oE,oE,oE,oE,oE,oE,oE,oE,oE,oE,oE,oE,oE,oE,oE,oE,oE,oE,oE,oE,oE,oE,oE,oE,oE,oE,oE,oE]
theorem xMh (a b c d e f g h i j k l m n o p q r s t u v w x y z A B C D E F G H I J K L M N O P Q R S T U V W X Y Z a0 a1 a2 a3 a4 a5 a6 a7 a8 a9 b0 b1 b2 b3 b4 b5 b6 b7 b8 b9 c0 c1 c2 c3 c4 c5 c6 c7 c8 c9 d0 d1 d2 d3 d4 : AV) : xAH xRx [a,b,c,d,e,f,g,h,i,j,k,l,m,n,o,p,q,r,s,t,u,v,w,x,y,z,A,B,C,D,E,F,G,H,I,J,K,L,M,N,O,P,Q,R,S,T,U,V,W,X,Y,Z,a0,a1,a2,a3,a4,a5,a6,a7,a8,a9,b0,b1,b2,b3,b4,b5,b6,b7,b8,b9,c0,c1,c2,c3,c4,c5,c6,c7,c8,c9,d0,d1,d2,d3,d4] = xRy b c f g h i j k l m M N O := by kernel_rfl
theorem xRz {prog : Nat → Option AFunc} (s1 s2 s5 s6 s7 s8 s9 s10 s11 s12 s38 s39 s40 : AV) (H : Heap) : (lim prog).loop xRx yAa ⟨xRy s1 s2 s5 s6 s7 s8 s9 s10 s11 s12 s38 s39 s40,H⟩ = xDR (lim prog) xRx yAa (run (lim prog) xN2 ⟨xRy s1 s2 s5 s6 s7 s8 s9 s10 s11 s12 s38 s39 s40,H⟩) := xAe _ _ _ _ (by kernel_rfl)
def xN3 : ACode :=
 .seq (oR ([oT 21 7,
 oA 22 .gtr 21 (.c (oI 0))])
 (.cond (.t 22)
 .skip
 (.exit 0)))
 (.block 1 (oR ([oT 23 7,
 oA 24 .sub 23 (.c (oI 1)),
 oT 7 24])
 (oR ([oT 25 1,
 oT 26 7,
 oO 27 (.iaddr 3 (.t 25) (.t 26)),
 oG 28 3 27,
 oX 9 (.c (.agg [.int .u8 0,oI 0,oI 0])),
 ⟨none,.store 3 (.t 9) (.t 28),none⟩])
 (oR ([oT 29 8,
 oF 30 1 9,
 oH 31 1 30,
 oO 32 (.icall (.t 29) [.t 31]),
 oT 10 32])
 (oR ([oT 33 8,
 oF 34 2 9,
 oH 35 1 34,
 oO 36 (.icall (.t 33) [.t 35]),
 oT 11 36])
 (oR ([oM 12 (.c (.int .u64 0))])
 (.seq (oR ([oF 37 4 2,
 oH 38 1 37,
 oN 39 38,
 oM 40 (.c (oI 0))])
 (.block 2 (.loop xRx yAa)))
 (oR ([oH 74 1 6,
 oT 75 12,
 oO 76 (.bslice true [.int .u64 0] 1 1 [(0,.t 75)]),
 oO 77 (.append false 1 8 (.t 74) (.t 76)),
 ⟨none,.store 1 (.t 6) (.t 77),none⟩])
 (oR ([oT 78 7,
 oA 79 .eql 78 (.c (oI 0))])
 (.cond (.t 79)
 (.exit 0)
 .skip))))))))))
def yAb : ACode := xN3
def xRA : List Nat := [0,3,4,9,10,11,12,13,14,15,16,17,18,19,20,21,22,23,24,25,26,27,28,29,30,31,32,33,34,35,36,37,38,39,40,41,42,43,44,45,46,47,48,49,50,51,52,53,54,55,56,57,58,59,60,61,62,63,64,65,66,67,68,69,70,71,72,73,74,75,76,77,78,79,80,81,82,83,84,85,86]
abbrev xPb (s1 s2 s5 s6 s7 s8 : AV) : List AV := [oE,s1,s2,oE,oE,s5,s6,s7,s8,oE,oE,oE,oE,oE,oE,oE,oE,oE,oE,oE,oE,oE,oE,oE,oE,oE,oE,oE,oE,oE,oE,oE,oE,oE,oE,oE,oE,oE,oE,oE,oE,oE,oE,oE,oE,oE,oE,oE,oE,oE,oE,oE,oE,oE,oE,oE,oE,oE,oE,oE,oE,oE,oE,oE,oE,oE,oE,oE,oE,oE,oE,oE,oE,oE,oE,oE,oE,oE,oE,oE,oE,oE,oE,oE,oE,oE,oE]
theorem xN4 (a b c d e f g h i j k l m n o p q r s t u v w x y z A B C D E F G H I J K L M N O P Q R S T U V W X Y Z a0 a1 a2 a3 a4 a5 a6 a7 a8 a9 b0 b1 b2 b3 b4 b5 b6 b7 b8 b9 c0 c1 c2 c3 c4 c5 c6 c7 c8 c9 d0 d1 d2 d3 d4 : AV) : xAH xRA [a,b,c,d,e,f,g,h,i,j,k,l,m,n,o,p,q,r,s,t,u,v,w,x,y,z,A,B,C,D,E,F,G,H,I,J,K,L,M,N,O,P,Q,R,S,T,U,V,W,X,Y,Z,a0,a1,a2,a3,a4,a5,a6,a7,a8,a9,b0,b1,b2,b3,b4,b5,b6,b7,b8,b9,c0,c1,c2,c3,c4,c5,c6,c7,c8,c9,d0,d1,d2,d3,d4] = xPb b c f g h i := by kernel_rfl
theorem yBC {prog : Nat → Option AFunc} (s1 s2 s5 s6 s7 s8 : AV) (H : Heap) : (lim prog).loop xRA yAb ⟨xPb s1 s2 s5 s6 s7 s8,H⟩ = xDR (lim prog) xRA yAb (run (lim prog) xN3 ⟨xPb s1 s2 s5 s6 s7 s8,H⟩) := xAe _ _ _ _ (by kernel_rfl)
def a49 : AFunc := ⟨87,
 oR ([oX 2 (.t 0),
 oM 4 (.c (.int .u64 0))])
 (.scope (oR ([oF 15 2 2,
 oH 16 1 15,
 oO 17 (.call 54 [.t 16]),
 oX 5 (.c (.int .u64 0)),
 ⟨none,.store 1 (.t 5) (.t 17),none⟩])
 (oR ([oX 6 (.c (oS))])
 (oR ([oT 18 1,
 oN 19 18,
 oT 7 19])
 (oR ([oO 20 (.mkfunc 82 [.t 5,.t 6]),
 oT 8 20])
 (.seq (.label)
 (.seq (.block 0 (.loop xRA yAb))
 (.seq (oR ([oT 80 1,
 oN 81 80,
 oA 82 .eql 81 (.c (oI 0))])
 (.cond (.t 82)
 (oR ([oH 83 1 5,
 oT 4 83])
 .ret)
 .skip))
 (oR ([oH 84 1 6,
 oO 85 (.iaddr 1 (.t 84) (.c (oI 0))),
 oH 86 1 85,
 oT 4 86])
 .ret))))))))),
 [.tmp 4]⟩
def xPc : ACode :=
 .seq (oR ([oT 15 5,
 oT 16 0,
 oN 17 16,
 oB 18 .lss 15 17])
 (.cond (.t 18)
 .skip
 (.exit 0)))
 (.seq (.block 1 (.seq (.draw 6 [oT 21 0,
 oT 22 5,
 oO 23 (.iaddr 3 (.t 21) (.t 22)),
 oF 24 0 23,
 oH 25 1 24,
 oO 26 (.conv .i64 (.t 25)),
 oT 27 1,
 oO 28 (.bin .shl (.c (oI 1)) (.t 27)),
 oB 29 .geq 26 28])
 (.cond (.t 29)
 (oR ([oM 4 (.c (oI 1))])
 .ret)
 .skip)))
 (.region [oT 19 5,
 oA 20 .add 19 (.c (oI 1)),
 oT 5 20]))
def yAc : ACode := xPc
def xRB : List Nat := [2,3,6,7,8,9,10,11,12,13,14,15,16,17,18,19,20,21,22,23,24,25,26,27,28,29,30,31,32]
abbrev xPd (s0 s1 s4 s5 : AV) : List AV := [s0,s1,oE,oE,s4,s5,oE,oE,oE,oE,oE,oE,oE,oE,oE,oE,oE,oE,oE,oE,oE,oE,oE,oE,oE,oE,oE,oE,oE,oE,oE,oE,oE]
theorem xN5 (a b c d e f g h i j k l m n o p q r s t u v w x y z A B C D E F G : AV) : xAH xRB [a,b,c,d,e,f,g,h,i,j,k,l,m,n,o,p,q,r,s,t,u,v,w,x,y,z,A,B,C,D,E,F,G] = xPd a b e f := by kernel_rfl
theorem xXm {prog : Nat → Option AFunc} (s0 s1 s4 s5 : AV) (H : Heap) : (lim prog).loop xRB yAc ⟨xPd s0 s1 s4 s5,H⟩ = xDR (lim prog) xRB yAc (run (lim prog) xPc ⟨xPd s0 s1 s4 s5,H⟩) := xAe _ _ _ _ (by kernel_rfl)
def a50 : AFunc := ⟨33,
 oR ([oM 4 (.c (oI 0))])
 (.seq (oR ([oT 6 1,
 oA 7 .lss 6 (.c (oI 0)),
 oT 8 7,
 ⟨some 9,.mov (.t 1),some (8,false)⟩,
 ⟨some 10,.bin .gtr (.t 9) (.c (oI 3)),some (8,false)⟩,
 oO 11 (.pick (.t 8) (.c (.bool true)) (.t 10))])
 (.cond (.t 11)
 (oR ([oM 4 (.c (oI 7))])
 .ret)
 .skip))
 (.seq (oR ([oT 12 0,
 oN 13 12,
 oA 14 .gtr 13 (.c (oI 31))])
 (.cond (.t 14)
 (oR ([oM 4 (.c (oI 4))])
 .ret)
 .skip))
 (.seq (oR ([oM 5 (.c (oI 0))])
 (.block 0 (.loop xRB yAc)))
 (.seq (oR ([oT 30 0,
 oO 31 (.call 84 [.t 30]),
 oO 32 (.un .not (.t 31))])
 (.cond (.t 32)
 (oR ([oM 4 (.c (oI 2))])
 .ret)
 .skip))
 (oR ([oM 4 (.c (oI 0))])
 .ret))))),
 [.tmp 4]⟩
def xRC : ACode :=
 .seq (oR ([oT 5 4,
 oT 6 0,
 oN 7 6,
 oB 8 .lss 5 7])
 (.cond (.t 8)
 .skip
 (.exit 0)))
 (.seq (.block 1 (oR ([oT 11 0,
 oT 12 4,
 oO 13 (.iaddr 1 (.t 11) (.t 12)),
 oH 14 1 13])
 (.cond (.t 14)
 (.region [oT 15 3,
 oT 16 4,
 oO 17 (.bin .shl (.c (.int .u64 1)) (.t 16)),
 oB 18 .add 15 17,
 oT 3 18])
 .skip)))
 (.region [oT 9 4,
 oA 10 .add 9 (.c (oI 1)),
 oT 4 10]))
def yAd : ACode := xRC
def xRD : List Nat := [1,2,5,6,7,8,9,10,11,12,13,14,15,16,17,18,19,20,21,22]
abbrev xRE (s0 s3 s4 : AV) : List AV := [s0,oE,oE,s3,s4,oE,oE,oE,oE,oE,oE,oE,oE,oE,oE,oE,oE,oE,oE,oE,oE,oE,oE]
theorem xRF (a b c d e f g h i j k l m n o p q r s t u v w : AV) : xAH xRD [a,b,c,d,e,f,g,h,i,j,k,l,m,n,o,p,q,r,s,t,u,v,w] = xRE a d e := by kernel_rfl
theorem xXn {prog : Nat → Option AFunc} (s0 s3 s4 : AV) (H : Heap) : (lim prog).loop xRD yAd ⟨xRE s0 s3 s4,H⟩ = xDR (lim prog) xRD yAd (run (lim prog) xRC ⟨xRE s0 s3 s4,H⟩) := xAe _ _ _ _ (by kernel_rfl)
def a51 : AFunc := ⟨23,
 oR ([oM 2 (.c (oS))])
 (oR ([oM 3 (.c (.int .u64 0))])
 (.seq (oR ([oM 4 (.c (oI 0))])
 (.block 0 (.loop xRD yAd)))
 (.seq (oR ([oT 19 3,
 oA 20 .eql 19 (.c (.int .u64 0))])
 (.cond (.t 20)
 (oR ([oM 2 (.c (oS))])
 .ret)
 .skip))
 (oR ([oT 21 3,
 oO 22 (.bslice true [.int .u64 0] 1 1 [(0,.t 21)]),
 oT 2 22])
 .ret)))),
 [.tmp 2]⟩
def xUg : ACode :=
 .seq (oR ([oT 17 8,
 oF 18 2 3,
 oH 19 1 18,
 oN 20 19,
 oB 21 .lss 17 20])
 (.cond (.t 21)
 .skip
 (.exit 0)))
 (.seq (.block 1 (.region [oT 24 7,
 oF 25 2 3,
 oH 26 1 25,
 oT 27 8,
 oO 28 (.iaddr 1 (.t 26) (.t 27)),
 oH 29 1 28,
 oO 30 (.iaddr 1 (.t 24) (.t 29)),
 ⟨none,.store 1 (.t 30) (.c (.bool true)),none⟩]))
 (.region [oT 22 8,
 oA 23 .add 22 (.c (oI 1)),
 oT 8 23]))
def yAe : ACode := xUg
def xRG : List Nat := [0,1,2,4,5,6,9,10,11,12,13,14,15,16,17,18,19,20,21,22,23,24,25,26,27,28,29,30,31,32,33,34,35,36,37,38,39,40,41,42,43,44,45,46,47,48,49,50,51,52,53,54,55,56,57,58,59,60,61,62,63,64,65,66,67,68,69,70,71,72,73,74,75,76,77,78,79,80,81,82,83,84,85,86,87,88]
abbrev xRH (s3 s7 s8 : AV) : List AV := [oE,oE,oE,s3,oE,oE,oE,s7,s8,oE,oE,oE,oE,oE,oE,oE,oE,oE,oE,oE,oE,oE,oE,oE,oE,oE,oE,oE,oE,oE,oE,oE,oE,oE,oE,oE,oE,oE,oE,oE,oE,oE,oE,oE,oE,oE,oE,oE,oE,oE,oE,oE,oE,oE,oE,oE,oE,oE,oE,oE,oE,oE,oE,oE,oE,oE,oE,oE,oE,oE,oE,oE,oE,oE,oE,oE,oE,oE,oE,oE,oE,oE,oE,oE,oE,oE,oE,oE,oE]
theorem xXo (a b c d e f g h i j k l m n o p q r s t u v w x y z A B C D E F G H I J K L M N O P Q R S T U V W X Y Z a0 a1 a2 a3 a4 a5 a6 a7 a8 a9 b0 b1 b2 b3 b4 b5 b6 b7 b8 b9 c0 c1 c2 c3 c4 c5 c6 c7 c8 c9 d0 d1 d2 d3 d4 d5 d6 : AV) : xAH xRG [a,b,c,d,e,f,g,h,i,j,k,l,m,n,o,p,q,r,s,t,u,v,w,x,y,z,A,B,C,D,E,F,G,H,I,J,K,L,M,N,O,P,Q,R,S,T,U,V,W,X,Y,Z,a0,a1,a2,a3,a4,a5,a6,a7,a8,a9,b0,b1,b2,b3,b4,b5,b6,b7,b8,b9,c0,c1,c2,c3,c4,c5,c6,c7,c8,c9,d0,d1,d2,d3,d4,d5,d6] = xRH d h i := by kernel_rfl
theorem yBD {prog : Nat → Option AFunc} (s3 s7 s8 : AV) (H : Heap) : (lim prog).loop xRG yAe ⟨xRH s3 s7 s8,H⟩ = xDR (lim prog) xRG yAe (run (lim prog) xUg ⟨xRH s3 s7 s8,H⟩) := xAe _ _ _ _ (by kernel_rfl)
def xN6 : ACode :=
 .seq (oR ([oT 48 11,
 oF 49 4 3,
 oH 50 1 49,
 oN 51 50,
 oB 52 .lss 48 51])
 (.cond (.t 52)
 .skip
 (.exit 2)))
 (.seq (.block 3 (oR ([oF 55 4 3,
 oH 56 1 55,
 oT 57 11,
 oO 58 (.iaddr 5 (.t 56) (.t 57)),
 oG 59 5 58,
 oX 12 (.c (.agg [oI 0,oI 0,oI 0,.int .u8 0,.int .u8 0])),
 ⟨none,.store 5 (.t 12) (.t 59),none⟩])
 (.seq (.draw 22 [oT 60 9,
 oF 61 0 12,
 oH 62 1 61,
 oO 63 (.iaddr 1 (.t 60) (.t 62)),
 oH 64 1 63,
 oT 65 64,
 ⟨some 66,.mov (.t 10),some (65,true)⟩,
 ⟨some 67,.faddr 1 (.t 12),some (65,true)⟩,
 ⟨some 68,.load false 1 (.t 67),some (65,true)⟩,
 ⟨some 69,.iaddr 1 (.t 66) (.t 68),some (65,true)⟩,
 ⟨some 70,.load false 1 (.t 69),some (65,true)⟩,
 oO 71 (.pick (.t 65) (.t 70) (.c (.bool false))),
 oT 72 71,
 ⟨some 73,.mov (.t 1),some (72,true)⟩,
 ⟨some 74,.mov (.t 2),some (72,true)⟩,
 ⟨some 75,.iaddr 3 (.t 73) (.t 74),some (72,true)⟩,
 ⟨some 76,.faddr 0 (.t 75),some (72,true)⟩,
 ⟨some 77,.load false 1 (.t 76),some (72,true)⟩,
 ⟨some 78,.faddr 3 (.t 12),some (72,true)⟩,
 ⟨some 79,.load false 1 (.t 78),some (72,true)⟩,
 ⟨some 80,.faddr 4 (.t 12),some (72,true)⟩,
 ⟨some 81,.load false 1 (.t 80),some (72,true)⟩,
 ⟨some 82,.call 41 [.t 77,.t 79,.t 81],some (72,true)⟩,
 oO 83 (.pick (.t 72) (.t 82) (.c (.bool false)))])
 (.cond (.t 83)
 (.region [oT 84 7,
 oF 85 2 12,
 oH 86 1 85,
 oO 87 (.iaddr 1 (.t 84) (.t 86)),
 ⟨none,.store 1 (.t 87) (.c (.bool true)),none⟩])
 .skip))))
 (.region [oT 53 11,
 oA 54 .add 53 (.c (oI 1)),
 oT 11 54]))
def yAf : ACode := xN6
def xRI : List Nat := [0,4,5,6,8,12,13,14,15,16,17,18,19,20,21,22,23,24,25,26,27,28,29,30,31,32,33,34,35,36,37,38,39,40,41,42,43,44,45,46,47,48,49,50,51,52,53,54,55,56,57,58,59,60,61,62,63,64,65,66,67,68,69,70,71,72,73,74,75,76,77,78,79,80,81,82,83,84,85,86,87,88]
abbrev xRJ (s1 s2 s3 s7 s9 s10 s11 : AV) : List AV := [oE,s1,s2,s3,oE,oE,oE,s7,oE,s9,s10,s11,oE,oE,oE,oE,oE,oE,oE,oE,oE,oE,oE,oE,oE,oE,oE,oE,oE,oE,oE,oE,oE,oE,oE,oE,oE,oE,oE,oE,oE,oE,oE,oE,oE,oE,oE,oE,oE,oE,oE,oE,oE,oE,oE,oE,oE,oE,oE,oE,oE,oE,oE,oE,oE,oE,oE,oE,oE,oE,oE,oE,oE,oE,oE,oE,oE,oE,oE,oE,oE,oE,oE,oE,oE,oE,oE,oE,oE]
theorem xPe (a b c d e f g h i j k l m n o p q r s t u v w x y z A B C D E F G H I J K L M N O P Q R S T U V W X Y Z a0 a1 a2 a3 a4 a5 a6 a7 a8 a9 b0 b1 b2 b3 b4 b5 b6 b7 b8 b9 c0 c1 c2 c3 c4 c5 c6 c7 c8 c9 d0 d1 d2 d3 d4 d5 d6 : AV) : xAH xRI [a,b,c,d,e,f,g,h,i,j,k,l,m,n,o,p,q,r,s,t,u,v,w,x,y,z,A,B,C,D,E,F,G,H,I,J,K,L,M,N,O,P,Q,R,S,T,U,V,W,X,Y,Z,a0,a1,a2,a3,a4,a5,a6,a7,a8,a9,b0,b1,b2,b3,b4,b5,b6,b7,b8,b9,c0,c1,c2,c3,c4,c5,c6,c7,c8,c9,d0,d1,d2,d3,d4,d5,d6] = xRJ b c d h j k l := by kernel_rfl
theorem xRK {prog : Nat → Option AFunc} (s1 s2 s3 s7 s9 s10 s11 : AV) (H : Heap) : (lim prog).loop xRI yAf ⟨xRJ s1 s2 s3 s7 s9 s10 s11,H⟩ = xDR (lim prog) xRI yAf (run (lim prog) xN6 ⟨xRJ s1 s2 s3 s7 s9 s10 s11,H⟩) := xAe _ _ _ _ (by kernel_rfl)
def a52 : AFunc := ⟨89,
 oR ([oX 3 (.t 0),
 oM 6 (.c (oS))])
 (oR ([oG 13 5 3,
 oO 14 (.ocall 85 [.t 13]),
 oT 7 14])
 (.seq (oR ([oT 15 2,
 oA 16 .lss 15 (.c (oI 0))])
 (.cond (.t 16)
 (.seq (oR ([oM 8 (.c (oI 0))])
 (.block 0 (.loop xRG yAe)))
 (oR ([oT 31 7,
 oT 6 31])
 .ret))
 .skip))
 (.seq (.draw 15 [oG 32 5 3,
 oT 33 1,
 oT 34 1,
 oT 35 2,
 oO 36 (.iaddr 3 (.t 34) (.t 35)),
 oF 37 1 36,
 oH 38 1 37,
 oO 39 (.call 52 [.t 32,.t 33,.t 38]),
 oG 40 5 3,
 oT 41 1,
 oT 42 1,
 oT 43 2,
 oO 44 (.iaddr 3 (.t 42) (.t 43)),
 oF 45 2 44,
 oH 46 1 45,
 oO 47 (.call 52 [.t 40,.t 41,.t 46]),
 oT 9 39,
 oT 10 47])
 (.seq (oR ([oM 11 (.c (oI 0))])
 (.block 2 (.loop xRI yAf)))
 (oR ([oT 88 7,
 oT 6 88])
 .ret))))),
 [.tmp 6]⟩
def a53 : AFunc := ⟨6,
 oR ([oM 2 (.c (oI 0))])
 (.seq (oR ([oT 3 0,
 oN 4 3,
 oA 5 .eql 4 (.c (oI 0))])
 (.cond (.t 5)
 (oR ([oM 2 (.c (.int .i64 (-1)))])
 .ret)
 .skip))
 (oR ([oM 2 (.c (oI 0))])
 .ret)),
 [.tmp 2]⟩
def xUh : ACode :=
 oR ([oB 8 .lss 7 6])
 (.seq (.cond (.t 8)
 .skip
 (.exit 0))
 (.seq (.block 1 (oR ([oO 9 (.iaddr 1 (.t 5) (.t 7)),
 oH 10 1 9,
 oT 4 10])
 (.region [oT 11 2,
 oT 12 4,
 oO 13 (.bin .shl (.c (.int .u64 1)) (.t 12)),
 oB 14 .or 11 13,
 oT 2 14])))
 (.region [oA 15 .add 7 (.c (oI 1)),
 oT 7 15])))
def yAg : ACode := xUh
def xRL : List Nat := [0,1,3,4,8,9,10,11,12,13,14,15,16]
abbrev xRM (s2 s5 s6 s7 : AV) : List AV := [oE,oE,s2,oE,oE,s5,s6,s7,oE,oE,oE,oE,oE,oE,oE,oE,oE]
theorem xXp (a b c d e f g h i j k l m n o p q : AV) : xAH xRL [a,b,c,d,e,f,g,h,i,j,k,l,m,n,o,p,q] = xRM c f g h := by kernel_rfl
theorem yBE {prog : Nat → Option AFunc} (s2 s5 s6 s7 : AV) (H : Heap) : (lim prog).loop xRL yAg ⟨xRM s2 s5 s6 s7,H⟩ = xDR (lim prog) xRL yAg (run (lim prog) xUh ⟨xRM s2 s5 s6 s7,H⟩) := xAe _ _ _ _ (by kernel_rfl)
def a54 : AFunc := ⟨17,
 oR ([oM 2 (.c (.int .u64 0))])
 (.seq (oR ([oT 5 0,
 oN 6 5,
 oM 7 (.c (oI 0))])
 (.block 0 (.loop xRL yAg)))
 (oR ([oT 16 2,
 oT 2 16])
 .ret)),
 [.tmp 2]⟩
def a55 : AFunc := ⟨8,
 oR ([oX 1 (.t 0),
 oM 2 (.c (.int .u64 0))])
 (oR ([oF 3 2 1,
 oH 4 1 3,
 oO 5 (.call 54 [.t 4]),
 oO 6 (.mkfunc 87 [.t 1]),
 oO 7 (.icall (.c (.func 86 [])) [.t 5,.t 6]),
 oT 2 7])
 .ret),
 [.tmp 2]⟩
def xUi : ACode :=
 .seq (oR ([oT 10 4,
 oF 11 2 1,
 oH 12 1 11,
 oN 13 12,
 oB 14 .lss 10 13])
 (.cond (.t 14)
 .skip
 (.exit 0)))
 (.seq (.block 1 (.region [oT 17 3,
 oF 18 2 1,
 oH 19 1 18,
 oT 20 4,
 oO 21 (.iaddr 1 (.t 19) (.t 20)),
 oH 22 1 21,
 oO 23 (.iaddr 1 (.t 17) (.t 22)),
 ⟨none,.store 1 (.t 23) (.c (.bool true)),none⟩]))
 (.region [oT 15 4,
 oA 16 .add 15 (.c (oI 1)),
 oT 4 16]))
def yAh : ACode := xUi
def xRN : List Nat := [0,2,5,6,7,8,9,10,11,12,13,14,15,16,17,18,19,20,21,22,23,24,25,26,27,28,29,30,31,32,33,34,35,36,37,38,39,40,41,42,43,44,45,46,47,48,49,50,51,52,53,54,55,56,57,58]
abbrev xRO (s1 s3 s4 : AV) : List AV := [oE,s1,oE,s3,s4,oE,oE,oE,oE,oE,oE,oE,oE,oE,oE,oE,oE,oE,oE,oE,oE,oE,oE,oE,oE,oE,oE,oE,oE,oE,oE,oE,oE,oE,oE,oE,oE,oE,oE,oE,oE,oE,oE,oE,oE,oE,oE,oE,oE,oE,oE,oE,oE,oE,oE,oE,oE,oE,oE]
theorem xXq (a b c d e f g h i j k l m n o p q r s t u v w x y z A B C D E F G H I J K L M N O P Q R S T U V W X Y Z a0 a1 a2 a3 a4 a5 a6 : AV) : xAH xRN [a,b,c,d,e,f,g,h,i,j,k,l,m,n,o,p,q,r,s,t,u,v,w,x,y,z,A,B,C,D,E,F,G,H,I,J,K,L,M,N,O,P,Q,R,S,T,U,V,W,X,Y,Z,a0,a1,a2,a3,a4,a5,a6] = xRO b d e := by kernel_rfl
theorem yBF {prog : Nat → Option AFunc} (s1 s3 s4 : AV) (H : Heap) : (lim prog).loop xRN yAh ⟨xRO s1 s3 s4,H⟩ = xDR (lim prog) xRN yAh (run (lim prog) xUi ⟨xRO s1 s3 s4,H⟩) := xAe _ _ _ _ (by kernel_rfl)
def xPf : ACode :=
 .seq (oR ([oT 30 6,
 oF 31 4 1,
 oH 32 1 31,
 oN 33 32,
 oB 34 .lss 30 33])
 (.cond (.t 34)
 .skip
 (.exit 4)))
 (.seq (.block 5 (oR ([oF 37 4 1,
 oH 38 1 37,
 oT 39 6,
 oO 40 (.iaddr 5 (.t 38) (.t 39)),
 oG 41 5 40,
 oX 7 (.c (.agg [oI 0,oI 0,oI 0,.int .u8 0,.int .u8 0])),
 ⟨none,.store 5 (.t 7) (.t 41),none⟩])
 (oR ([oT 42 3,
 oF 43 0 7,
 oH 44 1 43,
 oO 45 (.iaddr 1 (.t 42) (.t 44)),
 oH 46 1 45,
 oT 47 46,
 ⟨some 48,.mov (.t 3),some (47,true)⟩,
 ⟨some 49,.faddr 1 (.t 7),some (47,true)⟩,
 ⟨some 50,.load false 1 (.t 49),some (47,true)⟩,
 ⟨some 51,.iaddr 1 (.t 48) (.t 50),some (47,true)⟩,
 ⟨some 52,.load false 1 (.t 51),some (47,true)⟩,
 oO 53 (.pick (.t 47) (.t 52) (.c (.bool false)))])
 (.cond (.t 53)
 (.region [oT 54 3,
 oF 55 2 7,
 oH 56 1 55,
 oO 57 (.iaddr 1 (.t 54) (.t 56)),
 ⟨none,.store 1 (.t 57) (.c (.bool true)),none⟩])
 .skip))))
 (.region [oT 35 6,
 oA 36 .add 35 (.c (oI 1)),
 oT 6 36]))
def yAi : ACode := xPf
def xRP : List Nat := [0,2,4,7,8,9,10,11,12,13,14,15,16,17,18,19,20,21,22,23,24,25,26,27,28,29,30,31,32,33,34,35,36,37,38,39,40,41,42,43,44,45,46,47,48,49,50,51,52,53,54,55,56,57,58]
abbrev xRQ (s1 s3 s5 s6 : AV) : List AV := [oE,s1,oE,s3,oE,s5,s6,oE,oE,oE,oE,oE,oE,oE,oE,oE,oE,oE,oE,oE,oE,oE,oE,oE,oE,oE,oE,oE,oE,oE,oE,oE,oE,oE,oE,oE,oE,oE,oE,oE,oE,oE,oE,oE,oE,oE,oE,oE,oE,oE,oE,oE,oE,oE,oE,oE,oE,oE,oE]
theorem xRR (a b c d e f g h i j k l m n o p q r s t u v w x y z A B C D E F G H I J K L M N O P Q R S T U V W X Y Z a0 a1 a2 a3 a4 a5 a6 : AV) : xAH xRP [a,b,c,d,e,f,g,h,i,j,k,l,m,n,o,p,q,r,s,t,u,v,w,x,y,z,A,B,C,D,E,F,G,H,I,J,K,L,M,N,O,P,Q,R,S,T,U,V,W,X,Y,Z,a0,a1,a2,a3,a4,a5,a6] = xRQ b d f g := by kernel_rfl
theorem xUj {prog : Nat → Option AFunc} (s1 s3 s5 s6 : AV) (H : Heap) : (lim prog).loop xRP yAi ⟨xRQ s1 s3 s5 s6,H⟩ = xDR (lim prog) xRP yAi (run (lim prog) xPf ⟨xRQ s1 s3 s5 s6,H⟩) := xAe _ _ _ _ (by kernel_rfl)
def xUk : ACode :=
 .seq (oR ([oT 24 5,
 oF 25 1 1,
 oH 26 1 25,
 oB 27 .lss 24 26])
 (.cond (.t 27)
 .skip
 (.exit 2)))
 (.seq (.block 3 (oR ([oM 6 (.c (oI 0))])
 (.block 4 (.loop xRP yAi))))
 (.region [oT 28 5,
 oA 29 .add 28 (.c (oI 1)),
 oT 5 29]))
def yAj : ACode := xUk
def xRS : List Nat := [0,2,4,6,7,8,9,10,11,12,13,14,15,16,17,18,19,20,21,22,23,24,25,26,27,28,29,30,31,32,33,34,35,36,37,38,39,40,41,42,43,44,45,46,47,48,49,50,51,52,53,54,55,56,57,58]
abbrev xRT (s1 s3 s5 : AV) : List AV := [oE,s1,oE,s3,oE,s5,oE,oE,oE,oE,oE,oE,oE,oE,oE,oE,oE,oE,oE,oE,oE,oE,oE,oE,oE,oE,oE,oE,oE,oE,oE,oE,oE,oE,oE,oE,oE,oE,oE,oE,oE,oE,oE,oE,oE,oE,oE,oE,oE,oE,oE,oE,oE,oE,oE,oE,oE,oE,oE]
theorem xXr (a b c d e f g h i j k l m n o p q r s t u v w x y z A B C D E F G H I J K L M N O P Q R S T U V W X Y Z a0 a1 a2 a3 a4 a5 a6 : AV) : xAH xRS [a,b,c,d,e,f,g,h,i,j,k,l,m,n,o,p,q,r,s,t,u,v,w,x,y,z,A,B,C,D,E,F,G,H,I,J,K,L,M,N,O,P,Q,R,S,T,U,V,W,X,Y,Z,a0,a1,a2,a3,a4,a5,a6] = xRT b d f := by kernel_rfl
theorem yBG {prog : Nat → Option AFunc} (s1 s3 s5 : AV) (H : Heap) : (lim prog).loop xRS yAj ⟨xRT s1 s3 s5,H⟩ = xDR (lim prog) xRS yAj (run (lim prog) xUk ⟨xRT s1 s3 s5,H⟩) := xAe _ _ _ _ (by kernel_rfl)
def a56 : AFunc := ⟨59,
 oR ([oX 1 (.t 0),
 oM 2 (.c (oS))])
 (oR ([oG 8 5 1,
 oO 9 (.ocall 85 [.t 8]),
 oT 3 9])
 (.seq (oR ([oM 4 (.c (oI 0))])
 (.block 0 (.loop xRN yAh)))
 (.seq (oR ([oM 5 (.c (oI 0))])
 (.block 2 (.loop xRS yAj)))
 (oR ([oT 58 3,
 oT 2 58])
 .ret)))),
 [.tmp 2]⟩
def a57 : AFunc := ⟨13,
 oR ([oX 1 (.t 0),
 oM 2 (.c (.int .u64 0))])
 (oR ([oG 4 5 1,
 oO 5 (.call 55 [.t 4]),
 oX 3 (.c (.int .u64 0)),
 ⟨none,.store 1 (.t 3) (.t 5),none⟩])
 (.seq (.draw 6 [oF 6 3 1,
 oH 7 1 6,
 oO 8 (.call 54 [.t 7]),
 oH 9 1 3,
 oB 10 .and 8 9,
 oO 11 (.mkfunc 88 [.t 1,.t 3]),
 oO 12 (.icall (.c (.func 86 [])) [.t 10,.t 11]),
 oT 2 12])
 .ret)),
 [.tmp 2]⟩
def xPg : ACode :=
 oR ([oB 25 .lss 24 23])
 (.seq (.cond (.t 25)
 .skip
 (.exit 0))
 (.seq (.block 1 (oR ([oO 26 (.iaddr 5 (.t 22) (.t 24)),
 oG 27 5 26,
 oX 8 (.c (.agg [oI 0,oI 0,oI 0,.int .u8 0,.int .u8 0])),
 ⟨none,.store 5 (.t 8) (.t 27),none⟩])
 (.seq (.drawl [(3,(1,(43,1))),(36,(1,(43,1))),(3,(1,(43,1))),(41,(1,(43,1))),(3,(1,(44,1))),(41,(1,(44,1)))] 15 [oH 28 1 3,
 oF 29 0 8,
 oH 30 1 29,
 oO 31 (.iaddr 1 (.t 28) (.t 30)),
 oH 32 1 31,
 oH 33 1 3,
 oF 34 1 8,
 oH 35 1 34,
 oO 36 (.iaddr 1 (.t 33) (.t 35)),
 oH 37 1 36,
 oH 38 1 3,
 oF 39 2 8,
 oH 40 1 39,
 oO 41 (.iaddr 1 (.t 38) (.t 40)),
 oH 42 1 41,
 oF 43 0 8,
 ⟨none,.store 1 (.t 43) (.t 32),none⟩,
 oF 44 1 8,
 ⟨none,.store 1 (.t 44) (.t 37),none⟩,
 oF 45 2 8,
 ⟨none,.store 1 (.t 45) (.t 42),none⟩])
 (oR ([oF 46 0 8,
 oH 47 1 46,
 oF 48 1 8,
 oH 49 1 48,
 oF 50 2 8,
 oH 51 1 50,
 oO 52 (.mm false [.t 47,.t 49,.t 51]),
 oA 53 .geq 52 (.c (oI 0))])
 (.cond (.t 53)
 (.region [oF 54 4 6,
 oH 55 1 54,
 oG 56 5 8,
 oO 57 (.bslice true [oI 0,oI 0,oI 0,.int .u8 0,.int .u8 0] 5 1 [(0,.t 56)]),
 oO 58 (.append false 5 32 (.t 55) (.t 57)),
 oF 59 4 6,
 ⟨none,.store 1 (.t 59) (.t 58),none⟩])
 .skip)))))
 (.region [oA 60 .add 24 (.c (oI 1)),
 oT 24 60])))
def yAk : ACode := xPg
def xRU : List Nat := [0,1,2,5,7,8,9,10,11,12,13,14,15,16,17,18,19,20,21,25,26,27,28,29,30,31,32,33,34,35,36,37,38,39,40,41,42,43,44,45,46,47,48,49,50,51,52,53,54,55,56,57,58,59,60,61]
abbrev xRV (s3 s4 s6 s22 s23 s24 : AV) : List AV := [oE,oE,oE,s3,s4,oE,s6,oE,oE,oE,oE,oE,oE,oE,oE,oE,oE,oE,oE,oE,oE,oE,s22,s23,s24,oE,oE,oE,oE,oE,oE,oE,oE,oE,oE,oE,oE,oE,oE,oE,oE,oE,oE,oE,oE,oE,oE,oE,oE,oE,oE,oE,oE,oE,oE,oE,oE,oE,oE,oE,oE,oE]
theorem xKD (a b c d e f g h i j k l m n o p q r s t u v w x y z A B C D E F G H I J K L M N O P Q R S T U V W X Y Z a0 a1 a2 a3 a4 a5 a6 a7 a8 a9 : AV) : xAH xRU [a,b,c,d,e,f,g,h,i,j,k,l,m,n,o,p,q,r,s,t,u,v,w,x,y,z,A,B,C,D,E,F,G,H,I,J,K,L,M,N,O,P,Q,R,S,T,U,V,W,X,Y,Z,a0,a1,a2,a3,a4,a5,a6,a7,a8,a9] = xRV d e g w x y := by kernel_rfl
theorem xUl {prog : Nat → Option AFunc} (s3 s4 s6 s22 s23 s24 : AV) (H : Heap) : (lim prog).loop xRU yAk ⟨xRV s3 s4 s6 s22 s23 s24,H⟩ = xDR (lim prog) xRU yAk (run (lim prog) xPg ⟨xRV s3 s4 s6 s22 s23 s24,H⟩) := xAe _ _ _ _ (by kernel_rfl)
def a58 : AFunc := ⟨62,
 oR ([oX 2 (.t 0),
 oX 3 (.t 1),
 oX 4 (.c (.agg [oI 0,oI 0,oS,oS,oS]))])
 (oR ([oO 9 (.mkfunc 89 [.t 3]),
 oT 5 9])
 (.seq (.fzs 5 (.drawp [] [] 11 [oF 10 0 2,
 oH 11 1 10,
 oT 12 5,
 oF 13 2 2,
 oH 14 1 13,
 oO 15 (.ofcall (.t 12) [.t 14]),
 oT 16 5,
 oF 17 3 2,
 oH 18 1 17,
 oO 19 (.ofcall (.t 16) [.t 18]),
 oX 6 (.c (.agg [oI 0,oI 0,oS,oS,oS])),
 oO 20 (.build [oI 0,oI 0,oS,oS,oS] [(0,1,.t 11),(2,1,.t 15),(3,1,.t 19)]),
 ⟨none,.store 5 (.t 6) (.t 20),none⟩]))
 (.seq (oR ([oF 21 4 2,
 oH 22 1 21,
 oN 23 22,
 oM 24 (.c (oI 0))])
 (.block 0 (.loop xRU yAk)))
 (oR ([oG 61 5 6,
 ⟨none,.store 5 (.t 4) (.t 61),none⟩])
 .ret)))),
 [.cell 4 true 5]⟩
def xUm : ACode :=
 .seq (oR ([oT 13 5,
 oF 14 3 1,
 oH 15 1 14,
 oN 16 15,
 oB 17 .lss 13 16])
 (.cond (.t 17)
 .skip
 (.exit 0)))
 (.seq (.block 1 (.draw 9 [oT 20 4,
 oF 21 3 1,
 oH 22 1 21,
 oT 23 5,
 oO 24 (.iaddr 1 (.t 22) (.t 23)),
 oH 25 1 24,
 oT 26 3,
 oF 27 3 1,
 oH 28 1 27,
 oT 29 5,
 oO 30 (.iaddr 1 (.t 28) (.t 29)),
 oH 31 1 30,
 oO 32 (.iaddr 1 (.t 26) (.t 31)),
 oH 33 1 32,
 oO 34 (.iaddr 1 (.t 20) (.t 25)),
 ⟨none,.store 1 (.t 34) (.t 33),none⟩]))
 (.region [oT 18 5,
 oA 19 .add 18 (.c (oI 1)),
 oT 5 19]))
def yAl : ACode := xUm
def xRW : List Nat := [0,2,6,7,8,9,10,11,12,13,14,15,16,17,18,19,20,21,22,23,24,25,26,27,28,29,30,31,32,33,34,35,36,37,38,39,40,41,42,43,44,45,46,47,48,49,50,51,52,53,54,55,56,57,58,59,60,61,62,63,64,65,66,67,68,69,70,71,72,73,74,75,76,77,78,79,80]
abbrev xRX (s1 s3 s4 s5 : AV) : List AV := [oE,s1,oE,s3,s4,s5,oE,oE,oE,oE,oE,oE,oE,oE,oE,oE,oE,oE,oE,oE,oE,oE,oE,oE,oE,oE,oE,oE,oE,oE,oE,oE,oE,oE,oE,oE,oE,oE,oE,oE,oE,oE,oE,oE,oE,oE,oE,oE,oE,oE,oE,oE,oE,oE,oE,oE,oE,oE,oE,oE,oE,oE,oE,oE,oE,oE,oE,oE,oE,oE,oE,oE,oE,oE,oE,oE,oE,oE,oE,oE,oE]
theorem xXs (a b c d e f g h i j k l m n o p q r s t u v w x y z A B C D E F G H I J K L M N O P Q R S T U V W X Y Z a0 a1 a2 a3 a4 a5 a6 a7 a8 a9 b0 b1 b2 b3 b4 b5 b6 b7 b8 b9 c0 c1 c2 c3 c4 c5 c6 c7 c8 : AV) : xAH xRW [a,b,c,d,e,f,g,h,i,j,k,l,m,n,o,p,q,r,s,t,u,v,w,x,y,z,A,B,C,D,E,F,G,H,I,J,K,L,M,N,O,P,Q,R,S,T,U,V,W,X,Y,Z,a0,a1,a2,a3,a4,a5,a6,a7,a8,a9,b0,b1,b2,b3,b4,b5,b6,b7,b8,b9,c0,c1,c2,c3,c4,c5,c6,c7,c8] = xRX b d e f := by kernel_rfl
theorem yBH {prog : Nat → Option AFunc} (s1 s3 s4 s5 : AV) (H : Heap) : (lim prog).loop xRW yAl ⟨xRX s1 s3 s4 s5,H⟩ = xDR (lim prog) xRW yAl (run (lim prog) xUm ⟨xRX s1 s3 s4 s5,H⟩) := xAe _ _ _ _ (by kernel_rfl)
def xN7 : ACode :=
 .seq (oR ([oT 41 7,
 oF 42 4 1,
 oH 43 1 42,
 oN 44 43,
 oB 45 .lss 41 44])
 (.cond (.t 45)
 .skip
 (.exit 4)))
 (.seq (.block 5 (oR ([oF 48 4 1,
 oH 49 1 48,
 oT 50 7,
 oO 51 (.iaddr 5 (.t 49) (.t 50)),
 oG 52 5 51,
 oX 8 (.c (.agg [oI 0,oI 0,oI 0,.int .u8 0,.int .u8 0])),
 ⟨none,.store 5 (.t 8) (.t 52),none⟩])
 (oR ([oT 53 4,
 oF 54 2 8,
 oH 55 1 54,
 oO 56 (.iaddr 1 (.t 53) (.t 55)),
 oH 57 1 56,
 oT 58 57,
 ⟨some 59,.mov (.t 3),some (58,true)⟩,
 ⟨some 60,.faddr 0 (.t 8),some (58,true)⟩,
 ⟨some 61,.load false 1 (.t 60),some (58,true)⟩,
 ⟨some 62,.iaddr 1 (.t 59) (.t 61),some (58,true)⟩,
 ⟨some 63,.load false 1 (.t 62),some (58,true)⟩,
 oO 64 (.pick (.t 58) (.t 63) (.c (.bool false))),
 oT 65 64,
 ⟨some 66,.mov (.t 3),some (65,true)⟩,
 ⟨some 67,.faddr 1 (.t 8),some (65,true)⟩,
 ⟨some 68,.load false 1 (.t 67),some (65,true)⟩,
 ⟨some 69,.iaddr 1 (.t 66) (.t 68),some (65,true)⟩,
 ⟨some 70,.load false 1 (.t 69),some (65,true)⟩,
 oO 71 (.pick (.t 65) (.t 70) (.c (.bool false)))])
 (.cond (.t 71)
 (oR ([oT 72 4,
 oF 73 0 8,
 oH 74 1 73,
 oO 75 (.iaddr 1 (.t 72) (.t 74)),
 ⟨none,.store 1 (.t 75) (.c (.bool true)),none⟩])
 (.region [oT 76 4,
 oF 77 1 8,
 oH 78 1 77,
 oO 79 (.iaddr 1 (.t 76) (.t 78)),
 ⟨none,.store 1 (.t 79) (.c (.bool true)),none⟩]))
 .skip))))
 (.region [oT 46 7,
 oA 47 .add 46 (.c (oI 1)),
 oT 7 47]))
def yAm : ACode := xN7
def xRY : List Nat := [0,2,5,8,9,10,11,12,13,14,15,16,17,18,19,20,21,22,23,24,25,26,27,28,29,30,31,32,33,34,35,36,37,38,39,40,41,42,43,44,45,46,47,48,49,50,51,52,53,54,55,56,57,58,59,60,61,62,63,64,65,66,67,68,69,70,71,72,73,74,75,76,77,78,79,80]
abbrev xRZ (s1 s3 s4 s6 s7 : AV) : List AV := [oE,s1,oE,s3,s4,oE,s6,s7,oE,oE,oE,oE,oE,oE,oE,oE,oE,oE,oE,oE,oE,oE,oE,oE,oE,oE,oE,oE,oE,oE,oE,oE,oE,oE,oE,oE,oE,oE,oE,oE,oE,oE,oE,oE,oE,oE,oE,oE,oE,oE,oE,oE,oE,oE,oE,oE,oE,oE,oE,oE,oE,oE,oE,oE,oE,oE,oE,oE,oE,oE,oE,oE,oE,oE,oE,oE,oE,oE,oE,oE,oE]
theorem xPh (a b c d e f g h i j k l m n o p q r s t u v w x y z A B C D E F G H I J K L M N O P Q R S T U V W X Y Z a0 a1 a2 a3 a4 a5 a6 a7 a8 a9 b0 b1 b2 b3 b4 b5 b6 b7 b8 b9 c0 c1 c2 c3 c4 c5 c6 c7 c8 : AV) : xAH xRY [a,b,c,d,e,f,g,h,i,j,k,l,m,n,o,p,q,r,s,t,u,v,w,x,y,z,A,B,C,D,E,F,G,H,I,J,K,L,M,N,O,P,Q,R,S,T,U,V,W,X,Y,Z,a0,a1,a2,a3,a4,a5,a6,a7,a8,a9,b0,b1,b2,b3,b4,b5,b6,b7,b8,b9,c0,c1,c2,c3,c4,c5,c6,c7,c8] = xRZ b d e g h := by kernel_rfl
theorem xR0 {prog : Nat → Option AFunc} (s1 s3 s4 s6 s7 : AV) (H : Heap) : (lim prog).loop xRY yAm ⟨xRZ s1 s3 s4 s6 s7,H⟩ = xDR (lim prog) xRY yAm (run (lim prog) xN7 ⟨xRZ s1 s3 s4 s6 s7,H⟩) := xAe _ _ _ _ (by kernel_rfl)
def xUn : ACode :=
 .seq (oR ([oT 35 6,
 oF 36 1 1,
 oH 37 1 36,
 oB 38 .lss 35 37])
 (.cond (.t 38)
 .skip
 (.exit 2)))
 (.seq (.block 3 (oR ([oM 7 (.c (oI 0))])
 (.block 4 (.loop xRY yAm))))
 (.region [oT 39 6,
 oA 40 .add 39 (.c (oI 1)),
 oT 6 40]))
def yAn : ACode := xUn
def xR1 : List Nat := [0,2,5,7,8,9,10,11,12,13,14,15,16,17,18,19,20,21,22,23,24,25,26,27,28,29,30,31,32,33,34,35,36,37,38,39,40,41,42,43,44,45,46,47,48,49,50,51,52,53,54,55,56,57,58,59,60,61,62,63,64,65,66,67,68,69,70,71,72,73,74,75,76,77,78,79,80]
abbrev xR2 (s1 s3 s4 s6 : AV) : List AV := [oE,s1,oE,s3,s4,oE,s6,oE,oE,oE,oE,oE,oE,oE,oE,oE,oE,oE,oE,oE,oE,oE,oE,oE,oE,oE,oE,oE,oE,oE,oE,oE,oE,oE,oE,oE,oE,oE,oE,oE,oE,oE,oE,oE,oE,oE,oE,oE,oE,oE,oE,oE,oE,oE,oE,oE,oE,oE,oE,oE,oE,oE,oE,oE,oE,oE,oE,oE,oE,oE,oE,oE,oE,oE,oE,oE,oE,oE,oE,oE,oE]
theorem xXt (a b c d e f g h i j k l m n o p q r s t u v w x y z A B C D E F G H I J K L M N O P Q R S T U V W X Y Z a0 a1 a2 a3 a4 a5 a6 a7 a8 a9 b0 b1 b2 b3 b4 b5 b6 b7 b8 b9 c0 c1 c2 c3 c4 c5 c6 c7 c8 : AV) : xAH xR1 [a,b,c,d,e,f,g,h,i,j,k,l,m,n,o,p,q,r,s,t,u,v,w,x,y,z,A,B,C,D,E,F,G,H,I,J,K,L,M,N,O,P,Q,R,S,T,U,V,W,X,Y,Z,a0,a1,a2,a3,a4,a5,a6,a7,a8,a9,b0,b1,b2,b3,b4,b5,b6,b7,b8,b9,c0,c1,c2,c3,c4,c5,c6,c7,c8] = xR2 b d e g := by kernel_rfl
theorem yBI {prog : Nat → Option AFunc} (s1 s3 s4 s6 : AV) (H : Heap) : (lim prog).loop xR1 yAn ⟨xR2 s1 s3 s4 s6,H⟩ = xDR (lim prog) xR1 yAn (run (lim prog) xUn ⟨xR2 s1 s3 s4 s6,H⟩) := xAe _ _ _ _ (by kernel_rfl)
def a59 : AFunc := ⟨81,
 oR ([oX 1 (.t 0),
 oM 2 (.c (oS))])
 (.seq (.drawp [] [] 3 [oG 9 5 1,
 oO 10 (.call 56 [.t 9]),
 oG 11 5 1,
 oO 12 (.ocall 85 [.t 11]),
 oT 3 10,
 oT 4 12])
 (.seq (oR ([oM 5 (.c (oI 0))])
 (.block 0 (.loop xRW yAl)))
 (.seq (oR ([oM 6 (.c (oI 0))])
 (.block 2 (.loop xR1 yAn)))
 (oR ([oT 80 4,
 oT 2 80])
 .ret)))),
 [.tmp 2]⟩
def xUo : ACode :=
 .seq (oR ([oT 11 5,
 oT 12 0,
 oN 13 12,
 oB 14 .lss 11 13])
 (.cond (.t 14)
 .skip
 (.exit 0)))
 (.seq (.block 1 (.seq (.draw 5 [oT 17 0,
 oT 18 5,
 oO 19 (.iaddr 1 (.t 17) (.t 18)),
 oH 20 1 19,
 oT 21 1,
 oT 22 5,
 oO 23 (.iaddr 1 (.t 21) (.t 22)),
 oH 24 1 23,
 oB 25 .neq 20 24])
 (.cond (.t 25)
 (oR ([oM 4 (.c (.bool false))])
 .ret)
 .skip)))
 (.region [oT 15 5,
 oA 16 .add 15 (.c (oI 1)),
 oT 5 16]))
def yAo : ACode := xUo
def xR3 : List Nat := [2,3,6,7,8,9,10,11,12,13,14,15,16,17,18,19,20,21,22,23,24,25]
abbrev xR4 (s0 s1 s4 s5 : AV) : List AV := [s0,s1,oE,oE,s4,s5,oE,oE,oE,oE,oE,oE,oE,oE,oE,oE,oE,oE,oE,oE,oE,oE,oE,oE,oE,oE]
theorem xXu (a b c d e f g h i j k l m n o p q r s t u v w x y z : AV) : xAH xR3 [a,b,c,d,e,f,g,h,i,j,k,l,m,n,o,p,q,r,s,t,u,v,w,x,y,z] = xR4 a b e f := by kernel_rfl
theorem yBJ {prog : Nat → Option AFunc} (s0 s1 s4 s5 : AV) (H : Heap) : (lim prog).loop xR3 yAo ⟨xR4 s0 s1 s4 s5,H⟩ = xDR (lim prog) xR3 yAo (run (lim prog) xUo ⟨xR4 s0 s1 s4 s5,H⟩) := xAe _ _ _ _ (by kernel_rfl)
def a60 : AFunc := ⟨26,
 oR ([oM 4 (.c (.bool false))])
 (.seq (oR ([oT 6 0,
 oN 7 6,
 oT 8 1,
 oN 9 8,
 oB 10 .neq 7 9])
 (.cond (.t 10)
 (oR ([oM 4 (.c (.bool false))])
 .ret)
 .skip))
 (.seq (oR ([oM 5 (.c (oI 0))])
 (.block 0 (.loop xR3 yAo)))
 (oR ([oM 4 (.c (.bool true))])
 .ret))),
 [.tmp 4]⟩
def xUp : ACode :=
 .seq (oR ([oT 11 5,
 oT 12 0,
 oN 13 12,
 oB 14 .lss 11 13])
 (.cond (.t 14)
 .skip
 (.exit 0)))
 (.seq (.block 1 (.seq (.draw 5 [oT 17 0,
 oT 18 5,
 oO 19 (.iaddr 5 (.t 17) (.t 18)),
 oG 20 5 19,
 oT 21 1,
 oT 22 5,
 oO 23 (.iaddr 5 (.t 21) (.t 22)),
 oG 24 5 23,
 oO 25 (.aeq true 5 (.t 20) (.t 24))])
 (.cond (.t 25)
 (oR ([oM 4 (.c (.bool false))])
 .ret)
 .skip)))
 (.region [oT 15 5,
 oA 16 .add 15 (.c (oI 1)),
 oT 5 16]))
def yAp : ACode := xUp
def xR5 : List Nat := [2,3,6,7,8,9,10,11,12,13,14,15,16,17,18,19,20,21,22,23,24,25]
abbrev xR6 (s0 s1 s4 s5 : AV) : List AV := [s0,s1,oE,oE,s4,s5,oE,oE,oE,oE,oE,oE,oE,oE,oE,oE,oE,oE,oE,oE,oE,oE,oE,oE,oE,oE]
theorem xXv (a b c d e f g h i j k l m n o p q r s t u v w x y z : AV) : xAH xR5 [a,b,c,d,e,f,g,h,i,j,k,l,m,n,o,p,q,r,s,t,u,v,w,x,y,z] = xR6 a b e f := by kernel_rfl
theorem yBK {prog : Nat → Option AFunc} (s0 s1 s4 s5 : AV) (H : Heap) : (lim prog).loop xR5 yAp ⟨xR6 s0 s1 s4 s5,H⟩ = xDR (lim prog) xR5 yAp (run (lim prog) xUp ⟨xR6 s0 s1 s4 s5,H⟩) := xAe _ _ _ _ (by kernel_rfl)
def a61 : AFunc := ⟨26,
 oR ([oM 4 (.c (.bool false))])
 (.seq (oR ([oT 6 0,
 oN 7 6,
 oT 8 1,
 oN 9 8,
 oB 10 .neq 7 9])
 (.cond (.t 10)
 (oR ([oM 4 (.c (.bool false))])
 .ret)
 .skip))
 (.seq (oR ([oM 5 (.c (oI 0))])
 (.block 0 (.loop xR5 yAp)))
 (oR ([oM 4 (.c (.bool true))])
 .ret))),
 [.tmp 4]⟩
def xNa : ACode :=
 .seq (oR ([oT 3 2,
 oT 4 0,
 oN 5 4,
 oB 6 .lss 3 5])
 (.cond (.t 6)
 .skip
 (.exit 0)))
 (.seq (.block 1 (.region [oT 9 0,
 oT 10 2,
 oO 11 (.iaddr 1 (.t 9) (.t 10)),
 ⟨none,.store 1 (.t 11) (.c (.int .i64 (-77))),none⟩]))
 (.region [oT 7 2,
 oA 8 .add 7 (.c (oI 1)),
 oT 2 8]))
def xVK : ACode := xNa
def xN8 : List Nat := [1,3,4,5,6,7,8,9,10,11]
abbrev xMi (s0 s2 : AV) : List AV := [s0,oE,s2,oE,oE,oE,oE,oE,oE,oE,oE,oE]
theorem xMj (a b c d e f g h i j k l : AV) : xAH xN8 [a,b,c,d,e,f,g,h,i,j,k,l] = xMi a c := by kernel_rfl
theorem xPi {prog : Nat → Option AFunc} (s0 s2 : AV) (H : Heap) : (lim prog).loop xN8 xVK ⟨xMi s0 s2,H⟩ = xDR (lim prog) xN8 xVK (run (lim prog) xNa ⟨xMi s0 s2,H⟩) := xAe _ _ _ _ (by kernel_rfl)
def a62 : AFunc := ⟨12,
 oR ([oM 2 (.c (oI 0))])
 (.block 0 (.loop xN8 xVK)),
 []⟩
def xNb : ACode :=
 .seq (oR ([oT 3 2,
 oT 4 0,
 oN 5 4,
 oB 6 .lss 3 5])
 (.cond (.t 6)
 .skip
 (.exit 0)))
 (.seq (.block 1 (.region [oT 9 0,
 oT 10 2,
 oO 11 (.build [oI 0,oI 0,oI 0,.int .u8 0,.int .u8 0] [(2,1,(.c (.int .i64 (-7))))]),
 oO 12 (.iaddr 5 (.t 9) (.t 10)),
 ⟨none,.store 5 (.t 12) (.t 11),none⟩]))
 (.region [oT 7 2,
 oA 8 .add 7 (.c (oI 1)),
 oT 2 8]))
def xVL : ACode := xNb
def xN9 : List Nat := [1,3,4,5,6,7,8,9,10,11,12]
abbrev xMk (s0 s2 : AV) : List AV := [s0,oE,s2,oE,oE,oE,oE,oE,oE,oE,oE,oE,oE]
theorem xMl (a b c d e f g h i j k l m : AV) : xAH xN9 [a,b,c,d,e,f,g,h,i,j,k,l,m] = xMk a c := by kernel_rfl
theorem xPj {prog : Nat → Option AFunc} (s0 s2 : AV) (H : Heap) : (lim prog).loop xN9 xVL ⟨xMk s0 s2,H⟩ = xDR (lim prog) xN9 xVL (run (lim prog) xNb ⟨xMk s0 s2,H⟩) := xAe _ _ _ _ (by kernel_rfl)
def a63 : AFunc := ⟨13,
 oR ([oM 2 (.c (oI 0))])
 (.block 0 (.loop xN9 xVL)),
 []⟩
def a64 : AFunc := ⟨24,
 oR ([oX 3 (.t 0),
 oM 6 (.c (.bool false))])
 (.seq (.draw 7 [oG 10 5 3,
 oT 11 1,
 oO 12 (.call 66 [.t 11]),
 oO 13 (.call 16 [.t 10,.t 12]),
 oT 9 13,
 oO 14 (.ext 0 (.t 9)),
 oO 15 (.ext 1 (.t 9)),
 oT 7 14,
 oT 8 15])
 (oR ([oT 16 7,
 oT 17 2,
 oO 18 (.call 36 [.t 17]),
 oO 19 (.call 42 [.t 16,.t 18]),
 oT 20 19,
 ⟨some 21,.mov (.t 8),some (20,true)⟩,
 ⟨some 22,.bin .eql (.t 21) (.c (oI 0)),some (20,true)⟩,
 oO 23 (.pick (.t 20) (.t 22) (.c (.bool false))),
 oT 6 23])
 .ret)),
 [.tmp 6]⟩
def a65 : AFunc := ⟨22,
 oR ([oX 3 (.t 0),
 oM 6 (.c (.bool false))])
 (oR ([oG 10 5 3,
 oT 11 1,
 oO 12 (.call 18 [.t 10,.t 11]),
 oT 9 12,
 oO 13 (.ext 0 (.t 9)),
 oO 14 (.ext 1 (.t 9)),
 oT 7 13,
 oT 8 14])
 (oR ([oT 15 7,
 oT 16 2,
 oO 17 (.beq false (.t 15) (.t 16)),
 oT 18 17,
 ⟨some 19,.mov (.t 8),some (18,true)⟩,
 ⟨some 20,.bin .eql (.t 19) (.c (oI 0)),some (18,true)⟩,
 oO 21 (.pick (.t 18) (.t 20) (.c (.bool false))),
 oT 6 21])
 .ret)),
 [.tmp 6]⟩
def a66 : AFunc := ⟨13,
 oR ([oM 2 (.c (oS))])
 (oR ([oT 7 0,
 oO 8 (.call 90 [.t 7]),
 oT 6 8,
 oO 9 (.ext 0 (.t 6)),
 oO 10 (.ext 1 (.t 6)),
 oO 11 (.ext 2 (.t 6)),
 oT 3 9,
 oT 4 10,
 oT 5 11])
 (oR ([oT 12 3,
 oT 2 12])
 .ret)),
 [.tmp 2]⟩
def xUq : ACode :=
 oR ([oB 12 .lss 11 10])
 (.seq (.cond (.t 12)
 .skip
 (.exit 0))
 (.seq (.block 1 (oR ([oO 13 (.iaddr 1 (.t 9) (.t 11)),
 oH 14 1 13,
 oT 5 14])
 (oR ([oT 15 3,
 oT 16 5,
 oN 17 16,
 oB 18 .add 15 17,
 oT 3 18])
 (oR ([oT 19 3,
 oA 20 .lss 19 (.c (oI 0))])
 (.cond (.t 20)
 (.stuck)
 .skip)))))
 (.region [oA 22 .add 11 (.c (oI 1)),
 oT 11 22])))
def yCS : ACode := xUq
def xUr : List Nat := [1,2,4,5,6,7,8,12,13,14,15,16,17,18,19,20,21,22,23,24,25,26,27,28,29,30,31,32,33,34,35]
abbrev xXw (s0 s3 s9 s10 s11 : AV) : List AV := [s0,oE,oE,s3,oE,oE,oE,oE,oE,s9,s10,s11,oE,oE,oE,oE,oE,oE,oE,oE,oE,oE,oE,oE,oE,oE,oE,oE,oE,oE,oE,oE,oE,oE,oE,oE]
theorem yBL (a b c d e f g h i j k l m n o p q r s t u v w x y z A B C D E F G H I J : AV) : xAH xUr [a,b,c,d,e,f,g,h,i,j,k,l,m,n,o,p,q,r,s,t,u,v,w,x,y,z,A,B,C,D,E,F,G,H,I,J] = xXw a d j k l := by kernel_rfl
theorem yBM {prog : Nat → Option AFunc} (s0 s3 s9 s10 s11 : AV) (H : Heap) : (lim prog).loop xUr yCS ⟨xXw s0 s3 s9 s10 s11,H⟩ = xDR (lim prog) xUr yCS (run (lim prog) xUq ⟨xXw s0 s3 s9 s10 s11,H⟩) := xAe _ _ _ _ (by kernel_rfl)
def xUs : ACode :=
 oR ([oB 28 .lss 27 26])
 (.seq (.cond (.t 28)
 .skip
 (.exit 2))
 (.seq (.block 3 (oR ([oO 29 (.iaddr 1 (.t 25) (.t 27)),
 oH 30 1 29,
 oT 8 30])
 (.region [oT 31 6,
 oT 32 8,
 oO 33 (.append false 1 8 (.t 31) (.t 32)),
 oT 6 33])))
 (.region [oA 34 .add 27 (.c (oI 1)),
 oT 27 34])))
def yCT : ACode := xUs
def xUt : List Nat := [0,1,2,3,4,5,7,8,9,10,11,12,13,14,15,16,17,18,19,20,21,22,23,24,28,29,30,31,32,33,34,35]
abbrev xXx (s6 s25 s26 s27 : AV) : List AV := [oE,oE,oE,oE,oE,oE,s6,oE,oE,oE,oE,oE,oE,oE,oE,oE,oE,oE,oE,oE,oE,oE,oE,oE,oE,s25,s26,s27,oE,oE,oE,oE,oE,oE,oE,oE]
theorem yBN (a b c d e f g h i j k l m n o p q r s t u v w x y z A B C D E F G H I J : AV) : xAH xUt [a,b,c,d,e,f,g,h,i,j,k,l,m,n,o,p,q,r,s,t,u,v,w,x,y,z,A,B,C,D,E,F,G,H,I,J] = xXx g z A B := by kernel_rfl
theorem yBO {prog : Nat → Option AFunc} (s6 s25 s26 s27 : AV) (H : Heap) : (lim prog).loop xUt yCT ⟨xXx s6 s25 s26 s27,H⟩ = xDR (lim prog) xUt yCT (run (lim prog) xUs ⟨xXx s6 s25 s26 s27,H⟩) := xAe _ _ _ _ (by kernel_rfl)
def a67 : AFunc := ⟨36,
 oR ([oM 2 (.c (oS))])
 (oR ([oM 3 (.c (oI 0))])
 (.seq (oR ([oT 9 0,
 oN 10 9,
 oM 11 (.c (oI 0))])
 (.block 0 (.loop xUr yCS)))
 (oR ([oT 23 3,
 oO 24 (.icall (.c (.func 91 [])) [(.c (oS)),.t 23]),
 oT 6 24])
 (.seq (oR ([oT 25 0,
 oN 26 25,
 oM 27 (.c (oI 0))])
 (.block 2 (.loop xUt yCT)))
 (oR ([oT 35 6,
 oT 2 35])
 .ret))))),
 [.tmp 2]⟩
def xUu : ACode :=
 oR ([oB 12 .lss 11 10])
 (.seq (.cond (.t 12)
 .skip
 (.exit 0))
 (.seq (.block 1 (oR ([oO 13 (.iaddr 1 (.t 9) (.t 11)),
 oH 14 1 13,
 oT 5 14])
 (oR ([oT 15 3,
 oT 16 5,
 oN 17 16,
 oB 18 .add 15 17,
 oT 3 18])
 (oR ([oT 19 3,
 oA 20 .lss 19 (.c (oI 0))])
 (.cond (.t 20)
 (.stuck)
 .skip)))))
 (.region [oA 22 .add 11 (.c (oI 1)),
 oT 11 22])))
def yCU : ACode := xUu
def xUv : List Nat := [1,2,4,5,6,7,8,12,13,14,15,16,17,18,19,20,21,22,23,24,25,26,27,28,29,30,31,32,33,34,35]
abbrev xXy (s0 s3 s9 s10 s11 : AV) : List AV := [s0,oE,oE,s3,oE,oE,oE,oE,oE,s9,s10,s11,oE,oE,oE,oE,oE,oE,oE,oE,oE,oE,oE,oE,oE,oE,oE,oE,oE,oE,oE,oE,oE,oE,oE,oE]
theorem yBP (a b c d e f g h i j k l m n o p q r s t u v w x y z A B C D E F G H I J : AV) : xAH xUv [a,b,c,d,e,f,g,h,i,j,k,l,m,n,o,p,q,r,s,t,u,v,w,x,y,z,A,B,C,D,E,F,G,H,I,J] = xXy a d j k l := by kernel_rfl
theorem yBQ {prog : Nat → Option AFunc} (s0 s3 s9 s10 s11 : AV) (H : Heap) : (lim prog).loop xUv yCU ⟨xXy s0 s3 s9 s10 s11,H⟩ = xDR (lim prog) xUv yCU (run (lim prog) xUu ⟨xXy s0 s3 s9 s10 s11,H⟩) := xAe _ _ _ _ (by kernel_rfl)
def xUw : ACode :=
 oR ([oB 28 .lss 27 26])
 (.seq (.cond (.t 28)
 .skip
 (.exit 2))
 (.seq (.block 3 (oR ([oO 29 (.iaddr 1 (.t 25) (.t 27)),
 oH 30 1 29,
 oT 8 30])
 (.region [oT 31 6,
 oT 32 8,
 oO 33 (.append false 5 32 (.t 31) (.t 32)),
 oT 6 33])))
 (.region [oA 34 .add 27 (.c (oI 1)),
 oT 27 34])))
def yCV : ACode := xUw
def xUx : List Nat := [0,1,2,3,4,5,7,8,9,10,11,12,13,14,15,16,17,18,19,20,21,22,23,24,28,29,30,31,32,33,34,35]
abbrev xXz (s6 s25 s26 s27 : AV) : List AV := [oE,oE,oE,oE,oE,oE,s6,oE,oE,oE,oE,oE,oE,oE,oE,oE,oE,oE,oE,oE,oE,oE,oE,oE,oE,s25,s26,s27,oE,oE,oE,oE,oE,oE,oE,oE]
theorem yBR (a b c d e f g h i j k l m n o p q r s t u v w x y z A B C D E F G H I J : AV) : xAH xUx [a,b,c,d,e,f,g,h,i,j,k,l,m,n,o,p,q,r,s,t,u,v,w,x,y,z,A,B,C,D,E,F,G,H,I,J] = xXz g z A B := by kernel_rfl
theorem yBS {prog : Nat → Option AFunc} (s6 s25 s26 s27 : AV) (H : Heap) : (lim prog).loop xUx yCV ⟨xXz s6 s25 s26 s27,H⟩ = xDR (lim prog) xUx yCV (run (lim prog) xUw ⟨xXz s6 s25 s26 s27,H⟩) := xAe _ _ _ _ (by kernel_rfl)
def a68 : AFunc := ⟨36,
 oR ([oM 2 (.c (oS))])
 (oR ([oM 3 (.c (oI 0))])
 (.seq (oR ([oT 9 0,
 oN 10 9,
 oM 11 (.c (oI 0))])
 (.block 0 (.loop xUv yCU)))
 (oR ([oT 23 3,
 oO 24 (.icall (.c (.func 92 [])) [(.c (oS)),.t 23]),
 oT 6 24])
 (.seq (oR ([oT 25 0,
 oN 26 25,
 oM 27 (.c (oI 0))])
 (.block 2 (.loop xUx yCV)))
 (oR ([oT 35 6,
 oT 2 35])
 .ret))))),
 [.tmp 2]⟩
def a69 : AFunc := ⟨5,
 oR ([oM 2 (.c (oS))])
 (oR ([oT 3 0,
 oO 4 (.append false 1 8 (.c (oS)) (.t 3)),
 oT 2 4])
 .ret),
 [.tmp 2]⟩
def a70 : AFunc := ⟨5,
 oR ([oM 2 (.c (oS))])
 (oR ([oT 3 0,
 oO 4 (.append false 5 32 (.c (oS)) (.t 3)),
 oT 2 4])
 .ret),
 [.tmp 2]⟩
def a72 : AFunc := ⟨9,
 oR ([oM 4 (.c (oS))])
 (oR ([oT 5 0,
 oT 6 1,
 oO 7 (.call 78 [.t 6]),
 oO 8 (.ocall 95 [.t 5,.t 7]),
 oT 4 8])
 .ret),
 [.tmp 4]⟩
def a73 : AFunc := ⟨5,
 oR ([oM 2 (.c (oS))])
 (oR ([oT 3 0,
 oO 4 (.ocall 95 [.t 3,(.c (oS))]),
 oT 2 4])
 .ret),
 [.tmp 2]⟩
def a75 : AFunc := ⟨18,
 oR ([oM 2 (.c (.bool false))])
 (oR ([oT 3 0,
 oN 4 3,
 oA 5 .eql 4 (.c (oI 0)),
 oT 6 5,
 ⟨some 7,.mov (.t 0),some (6,false)⟩,
 ⟨some 8,.len (.t 7),some (6,false)⟩,
 ⟨some 9,.bin .leq (.t 8) (.c (oI 31)),some (6,false)⟩,
 ⟨some 10,.mov (.t 9),some (6,false)⟩,
 ⟨some 11,.mov (.t 0),some (10,true)⟩,
 ⟨some 12,.call 96 [.t 11,(.c (oI 0))],some (10,true)⟩,
 ⟨some 13,.mov (.t 0),some (10,true)⟩,
 ⟨some 14,.len (.t 13),some (10,true)⟩,
 ⟨some 15,.bin .eql (.t 12) (.t 14),some (10,true)⟩,
 ⟨some 16,.pick (.t 10) (.t 15) (.c (.bool false)),some (6,false)⟩,
 oO 17 (.pick (.t 6) (.c (.bool true)) (.t 16)),
 oT 2 17])
 .ret),
 [.tmp 2]⟩
def a78 : AFunc := ⟨22,
 oR ([oM 2 (.c (oS))])
 (.seq (oR ([oT 4 0,
 oA 5 .lss 4 (.c (oI 0)),
 oT 6 5,
 ⟨some 7,.mov (.t 0),some (6,false)⟩,
 ⟨some 8,.bin .gtr (.t 7) (.c (oI 4095)),some (6,false)⟩,
 oO 9 (.pick (.t 6) (.c (.bool true)) (.t 8))])
 (.cond (.t 9)
 (oR ([oM 2 (.c (oS))])
 .ret)
 .skip))
 (oR ([oT 10 0,
 oA 11 .quo 10 (.c (oI 64)),
 oA 12 .add 11 (.c (oI 1)),
 oO 13 (.mkslice false [.int .u64 0] 8 (.t 12) (.t 12)),
 oT 3 13])
 (oR ([oT 14 3,
 oT 15 0,
 oA 16 .quo 15 (.c (oI 64)),
 oT 17 0,
 oA 18 .rem 17 (.c (oI 64)),
 oO 19 (.bin .shl (.c (.int .u64 1)) (.t 18)),
 oO 20 (.iaddr 1 (.t 14) (.t 16)),
 ⟨none,.store 1 (.t 20) (.t 19),none⟩])
 (oR ([oT 21 3,
 oT 2 21])
 .ret)))),
 [.tmp 2]⟩
def yEE : ACode :=
 oR ([oB 14 .lss 13 12])
 (.seq (.cond (.t 14)
 .skip
 (.exit 0))
 (.seq (.block 1 (oR ([oT 15 13,
 oT 5 15])
 (.seq (.draw 5 [oT 16 0,
 oT 17 5,
 oO 18 (.iaddr 1 (.t 16) (.t 17)),
 oH 19 1 18,
 oT 20 1,
 oT 21 5,
 oO 22 (.iaddr 1 (.t 20) (.t 21)),
 oH 23 1 22,
 oB 24 .neq 19 23])
 (.cond (.t 24)
 (oR ([oM 4 (.c (.bool false))])
 .ret)
 .skip))))
 (.region [oA 25 .add 13 (.c (oI 1)),
 oT 13 25])))
def yGa : ACode := yEE
def yEF : List Nat := [2,3,5,6,7,8,9,10,11,14,15,16,17,18,19,20,21,22,23,24,25]
def a79 : AFunc := ⟨26,
 oR ([oM 4 (.c (.bool false))])
 (.seq (oR ([oT 6 0,
 oN 7 6,
 oT 8 1,
 oN 9 8,
 oB 10 .neq 7 9])
 (.cond (.t 10)
 (oR ([oM 4 (.c (.bool false))])
 .ret)
 .skip))
 (.seq (oR ([oT 11 0,
 oN 12 11,
 oM 13 (.c (oI 0))])
 (.block 0 (.loop yEF yGa)))
 (oR ([oM 4 (.c (.bool true))])
 .ret))),
 [.tmp 4]⟩
def xPk : ACode :=
 oR ([oB 21 .lss 20 19])
 (.seq (.cond (.t 21)
 .skip
 (.exit 1))
 (.seq (.block 2 (oR ([oO 22 (.iaddr 3 (.t 18) (.t 20)),
 oG 23 3 22,
 oX 6 (.c (.agg [.int .u8 0,oI 0,oI 0])),
 ⟨none,.store 3 (.t 6) (.t 23),none⟩])
 (oR ([oF 24 0 6,
 oH 25 1 24,
 oO 26 (.conv .i64 (.t 25)),
 oT 27 1,
 oB 28 .shr 26 27,
 oA 29 .neq 28 (.c (oI 0))])
 (.cond (.t 29)
 (oR ([oM 4 (.c (oI 1))])
 .ret)
 .skip))))
 (.region [oA 30 .add 20 (.c (oI 1)),
 oT 20 30])))
def xXA : ACode := xPk
def xPl : List Nat := [2,3,5,6,7,8,9,10,11,12,13,14,15,16,17,21,22,23,24,25,26,27,28,29,30,31,32,33]
abbrev xOa (s0 s1 s4 s18 s19 s20 : AV) : List AV := [s0,s1,oE,oE,s4,oE,oE,oE,oE,oE,oE,oE,oE,oE,oE,oE,oE,oE,s18,s19,s20,oE,oE,oE,oE,oE,oE,oE,oE,oE,oE,oE,oE,oE]
theorem xOb (a b c d e f g h i j k l m n o p q r s t u v w x y z A B C D E F G H : AV) : xAH xPl [a,b,c,d,e,f,g,h,i,j,k,l,m,n,o,p,q,r,s,t,u,v,w,x,y,z,A,B,C,D,E,F,G,H] = xOa a b e s t u := by kernel_rfl
theorem xUy {prog : Nat → Option AFunc} (s0 s1 s4 s18 s19 s20 : AV) (H : Heap) : (lim prog).loop xPl xXA ⟨xOa s0 s1 s4 s18 s19 s20,H⟩ = xDR (lim prog) xPl xXA (run (lim prog) xPk ⟨xOa s0 s1 s4 s18 s19 s20,H⟩) := xAe _ _ _ _ (by kernel_rfl)
def a81 : AFunc := ⟨34,
 oR ([oM 4 (.c (oI 0))])
 (.seq (.block 0 (oR ([oT 8 1,
 oA 9 .lss 8 (.c (oI 0)),
 oT 10 9,
 ⟨some 11,.mov (.t 1),some (10,false)⟩,
 ⟨some 12,.bin .gtr (.t 11) (.c (oI 3)),some (10,false)⟩,
 oO 13 (.pick (.t 10) (.c (.bool true)) (.t 12)),
 oT 7 13])
 (.cond (.t 7)
 (oR ([oM 4 (.c (oI 7))])
 .ret)
 (oR ([oT 15 0,
 oN 16 15,
 oA 17 .gtr 16 (.c (oI 31)),
 oT 14 17])
 (.cond (.t 14)
 (oR ([oM 4 (.c (oI 4))])
 .ret)
 .skip)))))
 (.seq (oR ([oT 18 0,
 oN 19 18,
 oM 20 (.c (oI 0))])
 (.block 1 (.loop xPl xXA)))
 (.seq (oR ([oT 31 0,
 oO 32 (.call 75 [.t 31]),
 oO 33 (.un .not (.t 32))])
 (.cond (.t 33)
 (oR ([oM 4 (.c (oI 2))])
 .ret)
 .skip))
 (oR ([oM 4 (.c (oI 0))])
 .ret)))),
 [.tmp 4]⟩
def a82 : AFunc := ⟨21,
 oR ([oM 4 (.c (.int .u64 0))])
 (.seq (oR ([oT 6 0,
 oA 7 .lss 6 (.c (oI 0))])
 (.cond (.t 7)
 (oR ([oH 8 1 1,
 oT 4 8])
 .ret)
 .skip))
 (oR ([oH 9 1 2,
 oH 10 1 2,
 oN 11 10,
 oA 12 .sub 11 (.c (oI 1)),
 oO 13 (.iaddr 1 (.t 9) (.t 12)),
 oH 14 1 13,
 oT 5 14])
 (oR ([oH 15 1 2,
 oH 16 1 2,
 oN 17 16,
 oA 18 .sub 17 (.c (oI 1)),
 oO 19 (.slice 1 (.t 15) none (some (.t 18)) none),
 ⟨none,.store 1 (.t 2) (.t 19),none⟩])
 (oR ([oT 20 5,
 oT 4 20])
 .ret)))),
 [.tmp 4]⟩
def a83 : AFunc := ⟨19,
 oR ([oX 2 (.t 0),
 oM 4 (.c (.bool false))])
 (oR ([oT 5 1,
 oF 6 0 2,
 oH 7 1 6,
 oB 8 .and 5 7,
 oF 9 0 2,
 oH 10 1 9,
 oB 11 .eql 8 10,
 oT 12 11,
 ⟨some 13,.mov (.t 1),some (12,true)⟩,
 ⟨some 14,.faddr 1 (.t 2),some (12,true)⟩,
 ⟨some 15,.load false 1 (.t 14),some (12,true)⟩,
 ⟨some 16,.bin .and (.t 13) (.t 15),some (12,true)⟩,
 ⟨some 17,.bin .eql (.t 16) (.c (.int .u8 0)),some (12,true)⟩,
 oO 18 (.pick (.t 12) (.t 17) (.c (.bool false))),
 oT 4 18])
 .ret),
 [.tmp 4]⟩
def a84 : AFunc := ⟨16,
 oR ([oM 2 (.c (.bool false))])
 (.seq (oR ([oT 3 0,
 oN 4 3,
 oA 5 .gtr 4 (.c (oI 31))])
 (.cond (.t 5)
 (oR ([oM 2 (.c (.bool false))])
 .ret)
 .skip))
 (oR ([oT 6 0,
 oN 7 6,
 oA 8 .eql 7 (.c (oI 0)),
 oT 9 8,
 ⟨some 10,.mov (.t 0),some (9,false)⟩,
 ⟨some 11,.call 101 [.t 10,(.c (oI 0))],some (9,false)⟩,
 ⟨some 12,.mov (.t 0),some (9,false)⟩,
 ⟨some 13,.len (.t 12),some (9,false)⟩,
 ⟨some 14,.bin .eql (.t 11) (.t 13),some (9,false)⟩,
 oO 15 (.pick (.t 9) (.c (.bool true)) (.t 14)),
 oT 2 15])
 .ret)),
 [.tmp 2]⟩
def a85 : AFunc := ⟨6,
 oR ([oX 1 (.t 0),
 oM 2 (.c (oS))])
 (oR ([oF 3 1 1,
 oH 4 1 3,
 oO 5 (.mkslice false [.bool false] 1 (.t 4) (.t 4)),
 oT 2 5])
 .ret),
 [.tmp 2]⟩
def xPm : ACode :=
 .seq (oR ([oT 9 5,
 oT 10 0,
 oB 11 .neq 9 10])
 (.cond (.t 11)
 .skip
 (.exit 0)))
 (.seq (.block 1 (.region [oT 15 5,
 oT 0 15]))
 (.region [oT 12 1,
 oT 13 0,
 oO 14 (.icall (.t 12) [.t 13]),
 oT 5 14]))
def xXB : ACode := xPm
def xPn : List Nat := [2,3,4,6,7,8,9,10,11,12,13,14,15,16]
abbrev xOc (s0 s1 s5 : AV) : List AV := [s0,s1,oE,oE,oE,s5,oE,oE,oE,oE,oE,oE,oE,oE,oE,oE,oE]
theorem xPo (a b c d e f g h i j k l m n o p q : AV) : xAH xPn [a,b,c,d,e,f,g,h,i,j,k,l,m,n,o,p,q] = xOc a b f := by kernel_rfl
theorem xUz {prog : Nat → Option AFunc} (s0 s1 s5 : AV) (H : Heap) : (lim prog).loop xPn xXB ⟨xOc s0 s1 s5,H⟩ = xDR (lim prog) xPn xXB (run (lim prog) xPm ⟨xOc s0 s1 s5,H⟩) := xAe _ _ _ _ (by kernel_rfl)
def a86 : AFunc := ⟨17,
 oR ([oM 4 (.c (.int .u64 0))])
 (.seq (oR ([oT 6 1,
 oT 7 0,
 oO 8 (.icall (.t 6) [.t 7]),
 oT 5 8])
 (.block 0 (.loop xPn xXB)))
 (oR ([oT 16 0,
 oT 4 16])
 .ret)),
 [.tmp 4]⟩
def xR7 : ACode :=
 oR ([oB 10 .lss 9 8])
 (.seq (.cond (.t 10)
 .skip
 (.exit 0))
 (.seq (.block 1 (oR ([oO 11 (.iaddr 5 (.t 7) (.t 9)),
 oG 12 5 11,
 oX 5 (.c (.agg [oI 0,oI 0,oI 0,.int .u8 0,.int .u8 0])),
 ⟨none,.store 5 (.t 5) (.t 12),none⟩])
 (.draw 11 [oT 13 0,
 oT 14 0,
 oF 15 0 5,
 oH 16 1 15,
 oB 17 .shr 14 16,
 oT 18 0,
 oF 19 1 5,
 oH 20 1 19,
 oB 21 .shr 18 20,
 oB 22 .and 17 21,
 oA 23 .and 22 (.c (.int .u64 1)),
 oF 24 2 5,
 oH 25 1 24,
 oB 26 .shl 23 25,
 oB 27 .or 13 26,
 oT 0 27])))
 (.region [oA 28 .add 9 (.c (oI 1)),
 oT 9 28])))
def yAq : ACode := xR7
def xR8 : List Nat := [1,2,3,4,5,6,10,11,12,13,14,15,16,17,18,19,20,21,22,23,24,25,26,27,28,29]
abbrev xR9 (s0 s7 s8 s9 : AV) : List AV := [s0,oE,oE,oE,oE,oE,oE,s7,s8,s9,oE,oE,oE,oE,oE,oE,oE,oE,oE,oE,oE,oE,oE,oE,oE,oE,oE,oE,oE,oE]
theorem xUA (a b c d e f g h i j k l m n o p q r s t u v w x y z A B C D : AV) : xAH xR8 [a,b,c,d,e,f,g,h,i,j,k,l,m,n,o,p,q,r,s,t,u,v,w,x,y,z,A,B,C,D] = xR9 a h i j := by kernel_rfl
theorem xXC {prog : Nat → Option AFunc} (s0 s7 s8 s9 : AV) (H : Heap) : (lim prog).loop xR8 yAq ⟨xR9 s0 s7 s8 s9,H⟩ = xDR (lim prog) xR8 yAq (run (lim prog) xR7 ⟨xR9 s0 s7 s8 s9,H⟩) := xAe _ _ _ _ (by kernel_rfl)
def a87 : AFunc := ⟨30,
 oR ([oM 3 (.c (.int .u64 0))])
 (.seq (oR ([oF 6 4 1,
 oH 7 1 6,
 oN 8 7,
 oM 9 (.c (oI 0))])
 (.block 0 (.loop xR8 yAq)))
 (oR ([oT 29 0,
 oT 3 29])
 .ret)),
 [.tmp 3]⟩
def xPp : ACode :=
 oR ([oB 11 .lss 10 9])
 (.seq (.cond (.t 11)
 .skip
 (.exit 0))
 (.seq (.block 1 (oR ([oO 12 (.iaddr 5 (.t 8) (.t 10)),
 oG 13 5 12,
 oX 6 (.c (.agg [oI 0,oI 0,oI 0,.int .u8 0,.int .u8 0])),
 ⟨none,.store 5 (.t 6) (.t 13),none⟩])
 (.seq (.draw 15 [oT 14 0,
 oF 15 2 6,
 oH 16 1 15,
 oB 17 .shr 14 16,
 oA 18 .and 17 (.c (.int .u64 1)),
 oA 19 .neq 18 (.c (.int .u64 0)),
 oT 20 19,
 ⟨some 21,.load false 1 (.t 2),some (20,true)⟩,
 ⟨some 22,.faddr 0 (.t 6),some (20,true)⟩,
 ⟨some 23,.load false 1 (.t 22),some (20,true)⟩,
 ⟨some 24,.bin .shr (.t 21) (.t 23),some (20,true)⟩,
 ⟨some 25,.load false 1 (.t 2),some (20,true)⟩,
 ⟨some 26,.faddr 1 (.t 6),some (20,true)⟩,
 ⟨some 27,.load false 1 (.t 26),some (20,true)⟩,
 ⟨some 28,.bin .shr (.t 25) (.t 27),some (20,true)⟩,
 ⟨some 29,.bin .and (.t 24) (.t 28),some (20,true)⟩,
 ⟨some 30,.bin .and (.t 29) (.c (.int .u64 1)),some (20,true)⟩,
 ⟨some 31,.bin .neq (.t 30) (.c (.int .u64 0)),some (20,true)⟩,
 oO 32 (.pick (.t 20) (.t 31) (.c (.bool false)))])
 (.cond (.t 32)
 (.draw 4 [oT 33 0,
 oF 34 0 6,
 oH 35 1 34,
 oO 36 (.bin .shl (.c (.int .u64 1)) (.t 35)),
 oF 37 1 6,
 oH 38 1 37,
 oO 39 (.bin .shl (.c (.int .u64 1)) (.t 38)),
 oB 40 .or 36 39,
 oB 41 .or 33 40,
 oT 0 41])
 .skip))))
 (.region [oA 42 .add 10 (.c (oI 1)),
 oT 10 42])))
def yAr : ACode := xPp
def xSa : List Nat := [1,3,4,5,6,7,11,12,13,14,15,16,17,18,19,20,21,22,23,24,25,26,27,28,29,30,31,32,33,34,35,36,37,38,39,40,41,42,43]
abbrev xSb (s0 s2 s8 s9 s10 : AV) : List AV := [s0,oE,s2,oE,oE,oE,oE,oE,s8,s9,s10,oE,oE,oE,oE,oE,oE,oE,oE,oE,oE,oE,oE,oE,oE,oE,oE,oE,oE,oE,oE,oE,oE,oE,oE,oE,oE,oE,oE,oE,oE,oE,oE,oE]
theorem xSc (a b c d e f g h i j k l m n o p q r s t u v w x y z A B C D E F G H I J K L M N O P Q R : AV) : xAH xSa [a,b,c,d,e,f,g,h,i,j,k,l,m,n,o,p,q,r,s,t,u,v,w,x,y,z,A,B,C,D,E,F,G,H,I,J,K,L,M,N,O,P,Q,R] = xSb a c i j k := by kernel_rfl
theorem xUB {prog : Nat → Option AFunc} (s0 s2 s8 s9 s10 : AV) (H : Heap) : (lim prog).loop xSa yAr ⟨xSb s0 s2 s8 s9 s10,H⟩ = xDR (lim prog) xSa yAr (run (lim prog) xPp ⟨xSb s0 s2 s8 s9 s10,H⟩) := xAe _ _ _ _ (by kernel_rfl)
def a88 : AFunc := ⟨44,
 oR ([oM 4 (.c (.int .u64 0))])
 (.seq (oR ([oF 7 4 1,
 oH 8 1 7,
 oN 9 8,
 oM 10 (.c (oI 0))])
 (.block 0 (.loop xSa yAr)))
 (oR ([oT 43 0,
 oT 4 43])
 .ret)),
 [.tmp 4]⟩
def xPq : ACode :=
 oR ([oB 9 .lss 8 7])
 (.seq (.cond (.t 9)
 .skip
 (.exit 0))
 (.seq (.block 1 (oR ([oO 10 (.iaddr 1 (.t 6) (.t 8)),
 oH 11 1 10,
 oT 5 11])
 (oR ([oH 12 1 1,
 oT 13 5,
 oO 14 (.iaddr 1 (.t 12) (.t 13)),
 oH 15 1 14,
 oA 16 .geq 15 (.c (oI 0))])
 (.cond (.t 16)
 (.region [oT 17 3,
 oH 18 1 1,
 oT 19 5,
 oO 20 (.iaddr 1 (.t 18) (.t 19)),
 oH 21 1 20,
 oO 22 (.bslice true [oI 0] 1 1 [(0,.t 21)]),
 oO 23 (.append false 1 8 (.t 17) (.t 22)),
 oT 3 23])
 .skip))))
 (.region [oA 24 .add 8 (.c (oI 1)),
 oT 8 24])))
def yAs : ACode := xPq
def xSd : List Nat := [0,2,4,5,9,10,11,12,13,14,15,16,17,18,19,20,21,22,23,24,25]
abbrev xSe (s1 s3 s6 s7 s8 : AV) : List AV := [oE,s1,oE,s3,oE,oE,s6,s7,s8,oE,oE,oE,oE,oE,oE,oE,oE,oE,oE,oE,oE,oE,oE,oE,oE,oE]
theorem xPr (a b c d e f g h i j k l m n o p q r s t u v w x y z : AV) : xAH xSd [a,b,c,d,e,f,g,h,i,j,k,l,m,n,o,p,q,r,s,t,u,v,w,x,y,z] = xSe b d g h i := by kernel_rfl
theorem xUC {prog : Nat → Option AFunc} (s1 s3 s6 s7 s8 : AV) (H : Heap) : (lim prog).loop xSd yAs ⟨xSe s1 s3 s6 s7 s8,H⟩ = xDR (lim prog) xSd yAs (run (lim prog) xPq ⟨xSe s1 s3 s6 s7 s8,H⟩) := xAe _ _ _ _ (by kernel_rfl)
def a89 : AFunc := ⟨26,
 oR ([oM 3 (.c (oS))])
 (.seq (oR ([oT 6 0,
 oN 7 6,
 oM 8 (.c (oI 0))])
 (.block 0 (.loop xSd yAs)))
 (oR ([oT 25 3,
 oT 3 25])
 .ret)),
 [.tmp 3]⟩
def a90 : AFunc := ⟨51,
 oR ([oM 2 (.c (oS)),
 oM 3 (.c (oI 0)),
 oM 4 (.c (oI 0))])
 (.seq (oR ([oT 6 0,
 oO 7 (.slen (.t 6)),
 oA 8 .gtr 7 (.c (oI 4096))])
 (.cond (.t 8)
 (oR ([oM 2 (.c (oS)),
 oM 3 (.c (oI 0)),
 oM 4 (.c (oI 4))])
 .ret)
 .skip))
 (oR ([oT 9 0,
 ⟨some 10,.build [.str ⟨#[]⟩,oI 0,oS,oI 0] [(0,1,.t 9)],none⟩,
 oX 11 (.t 10),
 oT 5 11])
 (oR ([oT 12 5,
 oO 13 (.icall (.c (.func 102 [])) [.t 12])])
 (.seq (oR ([oT 14 5,
 oO 15 (.nilchk (.t 14)),
 oF 16 3 15,
 oH 17 1 16,
 oA 18 .eql 17 (.c (oI 0)),
 oT 19 18,
 ⟨some 20,.mov (.t 5),some (19,true)⟩,
 ⟨some 21,.nilchk (.t 20),some (19,true)⟩,
 ⟨some 22,.faddr 1 (.t 21),some (19,true)⟩,
 ⟨some 23,.load false 1 (.t 22),some (19,true)⟩,
 ⟨some 24,.mov (.t 0),some (19,true)⟩,
 ⟨some 25,.slen (.t 24),some (19,true)⟩,
 ⟨some 26,.bin .lss (.t 23) (.t 25),some (19,true)⟩,
 oO 27 (.pick (.t 19) (.t 26) (.c (.bool false)))])
 (.cond (.t 27)
 (.region [oT 28 5,
 oT 29 5,
 oO 30 (.nilchk (.t 29)),
 oF 31 1 30,
 oH 32 1 31,
 oO 33 (.icall (.c (.func 103 [])) [.t 28,.t 32,(.c (oI 5))])])
 .skip))
 (.seq (oR ([oT 34 5,
 oO 35 (.nilchk (.t 34)),
 oF 36 3 35,
 oH 37 1 36,
 oA 38 .neq 37 (.c (oI 0))])
 (.cond (.t 38)
 (.seq (.draw 8 [oT 39 5,
 oO 40 (.nilchk (.t 39)),
 oF 41 1 40,
 oH 42 1 41,
 oT 43 5,
 oO 44 (.nilchk (.t 43)),
 oF 45 3 44,
 oH 46 1 45,
 oM 2 (.c (oS)),
 oT 3 42,
 oT 4 46])
 .ret)
 .skip))
 (oR ([oT 47 5,
 oO 48 (.nilchk (.t 47)),
 oF 49 2 48,
 oH 50 1 49,
 oT 2 50,
 oM 3 (.c (oI 0)),
 oM 4 (.c (oI 0))])
 .ret)))))),
 [.tmp 2,.tmp 3,.tmp 4]⟩
def a91 : AFunc := ⟨27,
 oR ([oM 4 (.c (oS))])
 (.seq (oR ([oT 5 1,
 oA 6 .lss 5 (.c (oI 0))])
 (.cond (.t 6)
 (.stuck)
 .skip))
 (.seq (oR ([oT 8 1,
 oT 9 0,
 oO 10 (.cap (.t 9)),
 oT 11 0,
 oN 12 11,
 oB 13 .sub 10 12,
 oB 14 .sub 8 13,
 oT 1 14])
 (oR ([oT 15 1,
 oA 16 .gtr 15 (.c (oI 0))])
 (.cond (.t 16)
 (.region [oT 17 0,
 oT 18 0,
 oO 19 (.cap (.t 18)),
 oO 20 (.slice 1 (.t 17) none (some (.t 19)) none),
 oT 21 1,
 oO 22 (.appendz [oI 0] 8 (.t 20) (.t 21)),
 oT 23 0,
 oN 24 23,
 oO 25 (.slice 1 (.t 22) none (some (.t 24)) none),
 oT 0 25])
 .skip)))
 (oR ([oT 26 0,
 oT 4 26])
 .ret))),
 [.tmp 4]⟩
def a92 : AFunc := ⟨27,
 oR ([oM 4 (.c (oS))])
 (.seq (oR ([oT 5 1,
 oA 6 .lss 5 (.c (oI 0))])
 (.cond (.t 6)
 (.stuck)
 .skip))
 (.seq (oR ([oT 8 1,
 oT 9 0,
 oO 10 (.cap (.t 9)),
 oT 11 0,
 oN 12 11,
 oB 13 .sub 10 12,
 oB 14 .sub 8 13,
 oT 1 14])
 (oR ([oT 15 1,
 oA 16 .gtr 15 (.c (oI 0))])
 (.cond (.t 16)
 (.region [oT 17 0,
 oT 18 0,
 oO 19 (.cap (.t 18)),
 oO 20 (.slice 5 (.t 17) none (some (.t 19)) none),
 oT 21 1,
 oO 22 (.appendz [oI 0,oI 0,oI 0,.int .u8 0,.int .u8 0] 32 (.t 20) (.t 21)),
 oT 23 0,
 oN 24 23,
 oO 25 (.slice 5 (.t 22) none (some (.t 24)) none),
 oT 0 25])
 .skip)))
 (oR ([oT 26 0,
 oT 4 26])
 .ret))),
 [.tmp 4]⟩
def xSf : ACode :=
 oR ([oB 17 .lss 16 15])
 (.seq (.cond (.t 17)
 .skip
 (.exit 0))
 (.seq (.block 1 (oR ([oT 18 16,
 oT 9 18])
 (.region [oT 19 8,
 oT 20 2,
 oT 21 7,
 oT 22 0,
 oT 23 9,
 oO 24 (.icall (.t 21) [.t 22,.t 23]),
 oT 25 7,
 oT 26 1,
 oT 27 9,
 oO 28 (.icall (.t 25) [.t 26,.t 27]),
 oO 29 (.icall (.t 20) [.t 24,.t 28]),
 oO 30 (.bslice true [.int .u64 0] 1 1 [(0,.t 29)]),
 oO 31 (.append false 1 8 (.t 19) (.t 30)),
 oT 8 31])))
 (.region [oA 32 .add 16 (.c (oI 1)),
 oT 16 32])))
def yAt : ACode := xSf
def xSg : List Nat := [3,4,5,6,9,10,11,12,13,14,17,18,19,20,21,22,23,24,25,26,27,28,29,30,31,32,33,34,35,36,37,38,39,40,41,42,43,44,45,46,47,48,49,50,51]
abbrev xSh (s0 s1 s2 s7 s8 s15 s16 : AV) : List AV := [s0,s1,s2,oE,oE,oE,oE,s7,s8,oE,oE,oE,oE,oE,oE,s15,s16,oE,oE,oE,oE,oE,oE,oE,oE,oE,oE,oE,oE,oE,oE,oE,oE,oE,oE,oE,oE,oE,oE,oE,oE,oE,oE,oE,oE,oE,oE,oE,oE,oE,oE,oE]
theorem xSi (a b c d e f g h i j k l m n o p q r s t u v w x y z A B C D E F G H I J K L M N O P Q R S T U V W X Y Z : AV) : xAH xSg [a,b,c,d,e,f,g,h,i,j,k,l,m,n,o,p,q,r,s,t,u,v,w,x,y,z,A,B,C,D,E,F,G,H,I,J,K,L,M,N,O,P,Q,R,S,T,U,V,W,X,Y,Z] = xSh a b c h i p q := by kernel_rfl
theorem xXD {prog : Nat → Option AFunc} (s0 s1 s2 s7 s8 s15 s16 : AV) (H : Heap) : (lim prog).loop xSg yAt ⟨xSh s0 s1 s2 s7 s8 s15 s16,H⟩ = xDR (lim prog) xSg yAt (run (lim prog) xSf ⟨xSh s0 s1 s2 s7 s8 s15 s16,H⟩) := xAe _ _ _ _ (by kernel_rfl)
def xPs : ACode :=
 .seq (oR ([oT 33 8,
 oN 34 33,
 oA 35 .gtr 34 (.c (oI 0)),
 oT 36 35,
 ⟨some 37,.mov (.t 8),some (36,true)⟩,
 ⟨some 38,.mov (.t 8),some (36,true)⟩,
 ⟨some 39,.len (.t 38),some (36,true)⟩,
 ⟨some 40,.bin .sub (.t 39) (.c (oI 1)),some (36,true)⟩,
 ⟨some 41,.iaddr 1 (.t 37) (.t 40),some (36,true)⟩,
 ⟨some 42,.load false 1 (.t 41),some (36,true)⟩,
 ⟨some 43,.bin .eql (.t 42) (.c (.int .u64 0)),some (36,true)⟩,
 oO 44 (.pick (.t 36) (.t 43) (.c (.bool false)))])
 (.cond (.t 44)
 .skip
 (.exit 2)))
 (.block 3 (.region [oT 45 8,
 oT 46 8,
 oN 47 46,
 oA 48 .sub 47 (.c (oI 1)),
 oO 49 (.slice 1 (.t 45) none (some (.t 48)) none),
 oT 8 49]))
def xXE : ACode := xPs
def xPt : List Nat := [0,1,2,3,4,5,6,7,9,10,11,12,13,14,15,16,17,18,19,20,21,22,23,24,25,26,27,28,29,30,31,32,33,34,35,36,37,38,39,40,41,42,43,44,45,46,47,48,49,50,51]
abbrev xOd (s8 : AV) : List AV := [oE,oE,oE,oE,oE,oE,oE,oE,s8,oE,oE,oE,oE,oE,oE,oE,oE,oE,oE,oE,oE,oE,oE,oE,oE,oE,oE,oE,oE,oE,oE,oE,oE,oE,oE,oE,oE,oE,oE,oE,oE,oE,oE,oE,oE,oE,oE,oE,oE,oE,oE,oE]
theorem xPu (a b c d e f g h i j k l m n o p q r s t u v w x y z A B C D E F G H I J K L M N O P Q R S T U V W X Y Z : AV) : xAH xPt [a,b,c,d,e,f,g,h,i,j,k,l,m,n,o,p,q,r,s,t,u,v,w,x,y,z,A,B,C,D,E,F,G,H,I,J,K,L,M,N,O,P,Q,R,S,T,U,V,W,X,Y,Z] = xOd i := by kernel_rfl
theorem xXF {prog : Nat → Option AFunc} (s8 : AV) (H : Heap) : (lim prog).loop xPt xXE ⟨xOd s8,H⟩ = xDR (lim prog) xPt xXE (run (lim prog) xPs ⟨xOd s8,H⟩) := xAe _ _ _ _ (by kernel_rfl)
def a93 : AFunc := ⟨52,
 oR ([oM 6 (.c (oS))])
 (oR ([oM 7 (.c (.func 104 []))])
 (oR ([oM 8 (.c (oS))])
 (.seq (oR ([oT 10 0,
 oN 11 10,
 oT 12 1,
 oN 13 12,
 oO 14 (.maxi (.t 11) (.t 13)),
 oO 15 (.mini (.t 14) (.c (oI 64))),
 oM 16 (.c (oI 0))])
 (.block 0 (.loop xSg yAt)))
 (.seq (.block 2 (.loop xPt xXE))
 (oR ([oT 50 8,
 oO 51 (.icall (.c (.func 105 [])) [.t 50]),
 oT 6 51])
 .ret))))),
 [.tmp 6]⟩
def a95 : AFunc := ⟨8,
 oR ([oM 4 (.c (oS))])
 (oR ([oT 5 0,
 oT 6 1,
 oO 7 (.icall (.c (.func 93 [])) [.t 5,.t 6,(.c (.func 106 []))]),
 oT 4 7])
 .ret),
 [.tmp 4]⟩
def xKe : ACode :=
 oR ([oA 22 .lss 21 (.c (oI 2))])
 (.seq (.cond (.t 22)
 .skip
 (.exit 0))
 (.seq (.block 1 (oR ([oO 23 (.idx false 1 2 (.t 20) (.t 21)),
 oT 7 23])
 (.seq (.block 2 (oR ([oT 25 7,
 oA 26 .eql 25 (.c (.int .i64 (-1))),
 oT 24 26])
 (.cond (.t 24)
 (.exit 1)
 (oR ([oT 28 7,
 oT 29 5,
 oB 30 .neq 28 29,
 oT 31 30,
 ⟨some 32,.mov (.t 5),some (31,false)⟩,
 ⟨some 33,.mov (.t 0),some (31,false)⟩,
 ⟨some 34,.len (.t 33),some (31,false)⟩,
 ⟨some 35,.bin .geq (.t 32) (.t 34),some (31,false)⟩,
 oO 36 (.pick (.t 31) (.c (.bool true)) (.t 35)),
 oT 27 36])
 (.cond (.t 27)
 (oR ([oM 4 (.c (.int .i64 (-1)))])
 .ret)
 .skip)))))
 (oR ([oT 37 0,
 oT 38 5,
 oO 39 (.call 96 [.t 37,.t 38]),
 oT 5 39])
 (oR ([oT 40 5,
 oA 41 .eql 40 (.c (.int .i64 (-1)))])
 (.cond (.t 41)
 (oR ([oM 4 (.c (.int .i64 (-1)))])
 .ret)
 .skip))))))
 (.region [oA 42 .add 21 (.c (oI 1)),
 oT 21 42])))
def yAu : ACode := xKe
def xSj : List Nat := [1,2,3,6,7,8,9,10,11,12,13,14,15,16,17,18,19,22,23,24,25,26,27,28,29,30,31,32,33,34,35,36,37,38,39,40,41,42,43]
abbrev xSk (s0 s4 s5 s20 s21 : AV) : List AV := [s0,oE,oE,oE,s4,s5,oE,oE,oE,oE,oE,oE,oE,oE,oE,oE,oE,oE,oE,oE,s20,s21,oE,oE,oE,oE,oE,oE,oE,oE,oE,oE,oE,oE,oE,oE,oE,oE,oE,oE,oE,oE,oE,oE]
theorem xKf (a b c d e f g h i j k l m n o p q r s t u v w x y z A B C D E F G H I J K L M N O P Q R : AV) : xAH xSj [a,b,c,d,e,f,g,h,i,j,k,l,m,n,o,p,q,r,s,t,u,v,w,x,y,z,A,B,C,D,E,F,G,H,I,J,K,L,M,N,O,P,Q,R] = xSk a e f u v := by kernel_rfl
theorem xPv {prog : Nat → Option AFunc} (s0 s4 s5 s20 s21 : AV) (H : Heap) : (lim prog).loop xSj yAu ⟨xSk s0 s4 s5 s20 s21,H⟩ = xDR (lim prog) xSj yAu (run (lim prog) xKe ⟨xSk s0 s4 s5 s20 s21,H⟩) := xAe _ _ _ _ (by kernel_rfl)
def a96 : AFunc := ⟨44,
 oR ([oM 4 (.c (oI 0))])
 (oR ([oT 8 1,
 oA 9 .add 8 (.c (oI 1)),
 oT 5 9])
 (.seq (.seq (.draw 12 [oT 10 0,
 oT 11 1,
 oO 12 (.iaddr 3 (.t 10) (.t 11)),
 oF 13 1 12,
 oH 14 1 13,
 oT 15 0,
 oT 16 1,
 oO 17 (.iaddr 3 (.t 15) (.t 16)),
 oF 18 2 17,
 oH 19 1 18,
 oO 20 (.build [oI 0,oI 0] [(0,1,.t 14),(1,1,.t 19)]),
 oM 21 (.c (oI 0))])
 (.block 0 (.loop xSj yAu)))
 (oR ([oT 43 5,
 oT 4 43])
 .ret))),
 [.tmp 4]⟩
def xSl : AFunc := ⟨47,
 oR ([oM 4 (.c (oI 0))])
 (.seq (oR ([oT 6 1,
 oT 7 0,
 oN 8 7,
 oB 9 .geq 6 8])
 (.cond (.t 9)
 (oR ([oM 4 (.c (.int .i64 (-1)))])
 .ret)
 .skip))
 (oR ([oT 10 1,
 oA 11 .add 10 (.c (oI 1)),
 oT 5 11])
 (.seq (oR ([oT 12 0,
 oT 13 1,
 oO 14 (.iaddr 3 (.t 12) (.t 13)),
 oF 15 1 14,
 oH 16 1 15,
 oA 17 .neq 16 (.c (.int .i64 (-1)))])
 (.cond (.t 17)
 (.seq (oR ([oT 18 0,
 oT 19 1,
 oO 20 (.iaddr 3 (.t 18) (.t 19)),
 oF 21 1 20,
 oH 22 1 21,
 oT 23 5,
 oB 24 .neq 22 23])
 (.cond (.t 24)
 (oR ([oM 4 (.c (.int .i64 (-1)))])
 .ret)
 .skip))
 (oR ([oT 25 0,
 oT 26 5,
 oO 27 (.call 101 [.t 25,.t 26]),
 oT 5 27])
 (oR ([oT 28 5,
 oA 29 .lss 28 (.c (oI 0))])
 (.cond (.t 29)
 (oR ([oM 4 (.c (.int .i64 (-1)))])
 .ret)
 .skip))))
 .skip))
 (.seq (oR ([oT 30 0,
 oT 31 1,
 oO 32 (.iaddr 3 (.t 30) (.t 31)),
 oF 33 2 32,
 oH 34 1 33,
 oA 35 .neq 34 (.c (.int .i64 (-1)))])
 (.cond (.t 35)
 (.seq (oR ([oT 36 0,
 oT 37 1,
 oO 38 (.iaddr 3 (.t 36) (.t 37)),
 oF 39 2 38,
 oH 40 1 39,
 oT 41 5,
 oB 42 .neq 40 41])
 (.cond (.t 42)
 (oR ([oM 4 (.c (.int .i64 (-1)))])
 .ret)
 .skip))
 (.region [oT 43 0,
 oT 44 5,
 oO 45 (.call 101 [.t 43,.t 44]),
 oT 5 45]))
 .skip))
 (oR ([oT 46 5,
 oT 4 46])
 .ret))))),
 [.tmp 4]⟩
def yHx : AFunc := ⟨135,
 oR ([oM 2 (.c (oI 0))])
 (.seq (.seq (.draw 26 [oT 7 0,
 oO 8 (.nilchk (.t 7)),
 oF 9 3 8,
 oH 10 1 9,
 oA 11 .eql 10 (.c (oI 0)),
 oT 12 11,
 ⟨some 13,.mov (.t 0),some (12,true)⟩,
 ⟨some 14,.nilchk (.t 13),some (12,true)⟩,
 ⟨some 15,.faddr 1 (.t 14),some (12,true)⟩,
 ⟨some 16,.load false 1 (.t 15),some (12,true)⟩,
 ⟨some 17,.mov (.t 0),some (12,true)⟩,
 ⟨some 18,.nilchk (.t 17),some (12,true)⟩,
 ⟨some 19,.faddr 0 (.t 18),some (12,true)⟩,
 ⟨some 20,.load false 1 (.t 19),some (12,true)⟩,
 ⟨some 21,.slen (.t 20),some (12,true)⟩,
 ⟨some 22,.bin .lss (.t 16) (.t 21),some (12,true)⟩,
 oO 23 (.pick (.t 12) (.t 22) (.c (.bool false))),
 oT 24 23,
 ⟨some 25,.mov (.t 0),some (24,true)⟩,
 ⟨some 26,.nilchk (.t 25),some (24,true)⟩,
 ⟨some 27,.faddr 0 (.t 26),some (24,true)⟩,
 ⟨some 28,.load false 1 (.t 27),some (24,true)⟩,
 ⟨some 29,.mov (.t 0),some (24,true)⟩,
 ⟨some 30,.nilchk (.t 29),some (24,true)⟩,
 ⟨some 31,.faddr 1 (.t 30),some (24,true)⟩,
 ⟨some 32,.load false 1 (.t 31),some (24,true)⟩,
 ⟨some 33,.sidx (.t 28) (.t 32),some (24,true)⟩,
 ⟨some 34,.bin .eql (.t 33) (.c (.int .u8 45)),some (24,true)⟩,
 oO 35 (.pick (.t 24) (.t 34) (.c (.bool false)))])
 (.cond (.t 35)
 (oR ([oT 36 0,
 oO 37 (.nilchk (.t 36)),
 oF 38 1 37,
 oH 39 1 38,
 oA 40 .add 39 (.c (oI 1)),
 oO 41 (.nilchk (.t 36)),
 oF 42 1 41,
 ⟨none,.store 1 (.t 42) (.t 40),none⟩])
 (oR ([oM 2 (.c (.int .i64 (-1)))])
 .ret))
 .skip))
 (.seq (.seq (.draw 26 [oT 43 0,
 oO 44 (.nilchk (.t 43)),
 oF 45 3 44,
 oH 46 1 45,
 oA 47 .eql 46 (.c (oI 0)),
 oT 48 47,
 ⟨some 49,.mov (.t 0),some (48,true)⟩,
 ⟨some 50,.nilchk (.t 49),some (48,true)⟩,
 ⟨some 51,.faddr 1 (.t 50),some (48,true)⟩,
 ⟨some 52,.load false 1 (.t 51),some (48,true)⟩,
 ⟨some 53,.mov (.t 0),some (48,true)⟩,
 ⟨some 54,.nilchk (.t 53),some (48,true)⟩,
 ⟨some 55,.faddr 0 (.t 54),some (48,true)⟩,
 ⟨some 56,.load false 1 (.t 55),some (48,true)⟩,
 ⟨some 57,.slen (.t 56),some (48,true)⟩,
 ⟨some 58,.bin .lss (.t 52) (.t 57),some (48,true)⟩,
 oO 59 (.pick (.t 48) (.t 58) (.c (.bool false))),
 oT 60 59,
 ⟨some 61,.mov (.t 0),some (60,true)⟩,
 ⟨some 62,.nilchk (.t 61),some (60,true)⟩,
 ⟨some 63,.faddr 0 (.t 62),some (60,true)⟩,
 ⟨some 64,.load false 1 (.t 63),some (60,true)⟩,
 ⟨some 65,.mov (.t 0),some (60,true)⟩,
 ⟨some 66,.nilchk (.t 65),some (60,true)⟩,
 ⟨some 67,.faddr 1 (.t 66),some (60,true)⟩,
 ⟨some 68,.load false 1 (.t 67),some (60,true)⟩,
 ⟨some 69,.sidx (.t 64) (.t 68),some (60,true)⟩,
 ⟨some 70,.bin .eql (.t 69) (.c (.int .u8 40)),some (60,true)⟩,
 oO 71 (.pick (.t 60) (.t 70) (.c (.bool false))),
 oT 72 71,
 ⟨some 73,.mov (.t 0),some (72,true)⟩,
 ⟨some 74,.nilchk (.t 73),some (72,true)⟩,
 ⟨some 75,.faddr 2 (.t 74),some (72,true)⟩,
 ⟨some 76,.load false 1 (.t 75),some (72,true)⟩,
 ⟨some 77,.len (.t 76),some (72,true)⟩,
 ⟨some 78,.bin .eql (.t 77) (.c (oI 31)),some (72,true)⟩,
 oO 79 (.pick (.t 72) (.t 78) (.c (.bool false)))])
 (.cond (.t 79)
 (.region [oT 80 0,
 oT 81 0,
 oO 82 (.nilchk (.t 81)),
 oF 83 1 82,
 oH 84 1 83,
 oO 85 (.icall (.c (.func 103 [])) [.t 80,.t 84,(.c (oI 4))])])
 .skip))
 (.seq (oR ([oT 86 0,
 oO 87 (.icall (.c (.func 111 [])) [.t 86,(.c (.int .u8 40))]),
 oO 88 (.un .not (.t 87))])
 (.cond (.t 88)
 (oR ([oM 2 (.c (.int .i64 (-1)))])
 .ret)
 .skip))
 (oR ([oT 89 0,
 oO 90 (.nilchk (.t 89)),
 oF 91 2 90,
 oH 92 1 91,
 oN 93 92,
 oT 3 93])
 (.seq (.drawh [(97,(1,6))] [] [] 5 [oT 94 0,
 oT 95 0,
 oO 96 (.nilchk (.t 95)),
 oF 97 2 96,
 oH 98 1 97,
 oT 99 0,
 oO 100 (.icall (.c (.func 112 [])) [.t 99]),
 oO 101 (.build [.int .u8 0,oI 0,oI 0] [(0,1,.t 100),(1,1,(.c (.int .i64 (-1)))),(2,1,(.c (.int .i64 (-1))))]),
 oO 102 (.bslice true [.int .u8 0,oI 0,oI 0] 3 1 [(0,.t 101)]),
 oO 103 (.append false 3 24 (.t 98) (.t 102)),
 oO 104 (.nilchk (.t 94)),
 oF 105 2 104,
 ⟨none,.store 1 (.t 105) (.t 103),none⟩])
 (oR ([oT 106 0,
 oO 107 (.mkbound 102 [.t 106]),
 oT 4 107])
 (.seq (oR ([oT 108 0,
 oO 109 (.icall (.c (.func 111 [])) [.t 108,(.c (.int .u8 32))])])
 (.cond (.t 109)
 (oR ([oT 110 4,
 oO 111 (.bcall (.t 110) []),
 oT 5 111])
 (.region [oT 112 0,
 oO 113 (.nilchk (.t 112)),
 oF 114 2 113,
 oH 115 1 114,
 oT 116 3,
 oT 117 5,
 oO 118 (.iaddr 3 (.t 115) (.t 116)),
 oF 119 1 118,
 ⟨none,.store 1 (.t 119) (.t 117),none⟩]))
 .skip))
 (.seq (oR ([oT 120 0,
 oO 121 (.icall (.c (.func 111 [])) [.t 120,(.c (.int .u8 32))])])
 (.cond (.t 121)
 (oR ([oT 122 4,
 oO 123 (.bcall (.t 122) []),
 oT 6 123])
 (.region [oT 124 0,
 oO 125 (.nilchk (.t 124)),
 oF 126 2 125,
 oH 127 1 126,
 oT 128 3,
 oT 129 6,
 oO 130 (.iaddr 3 (.t 127) (.t 128)),
 oF 131 2 130,
 ⟨none,.store 1 (.t 131) (.t 129),none⟩]))
 .skip))
 (oR ([oT 132 0,
 oO 133 (.icall (.c (.func 111 [])) [.t 132,(.c (.int .u8 41))])])
 (oR ([oT 134 3,
 oT 2 134])
 .ret)))))))))),
 [.tmp 2]⟩
def yHy : AFunc := ⟨19,
 oR ([oT 6 0,
 oO 7 (.nilchk (.t 6)),
 oF 8 3 7,
 oH 9 1 8,
 oA 10 .eql 9 (.c (oI 0))])
 (.cond (.t 10)
 (.region [oT 11 0,
 oT 12 0,
 oT 13 1,
 oT 14 2,
 oO 15 (.nilchk (.t 11)),
 oF 16 1 15,
 ⟨none,.store 1 (.t 16) (.t 13),none⟩,
 oO 17 (.nilchk (.t 12)),
 oF 18 3 17,
 ⟨none,.store 1 (.t 18) (.t 14),none⟩])
 .skip),
 []⟩
def yFO : AFunc := ⟨13,
 oR ([oM 4 (.c (.int .u64 0))])
 (.seq (oR ([oT 5 1,
 oT 6 0,
 oN 7 6,
 oB 8 .lss 5 7])
 (.cond (.t 8)
 (oR ([oT 9 0,
 oT 10 1,
 oO 11 (.iaddr 1 (.t 9) (.t 10)),
 oH 12 1 11,
 oT 4 12])
 .ret)
 .skip))
 (oR ([oM 4 (.c (.int .u64 0))])
 .ret)),
 [.tmp 4]⟩
def yFP : AFunc := ⟨9,
 oR ([oM 2 (.c (oS))])
 (oR ([oT 3 0,
 oT 4 0,
 oN 5 4,
 oT 6 0,
 oN 7 6,
 oO 8 (.slice 1 (.t 3) none (some (.t 5)) (some (.t 7))),
 oT 2 8])
 .ret),
 [.tmp 2]⟩
def yGb : AFunc := ⟨8,
 oR ([oM 4 (.c (.int .u64 0))])
 (oR ([oT 5 0,
 oT 6 1,
 oB 7 .or 5 6,
 oT 4 7])
 .ret),
 [.tmp 4]⟩
def yHz : AFunc := ⟨58,
 oR ([oM 4 (.c (.bool false))])
 (.seq (.block 0 (oR ([oT 13 0,
 oO 14 (.nilchk (.t 13)),
 oF 15 3 14,
 oH 16 1 15,
 oA 17 .neq 16 (.c (oI 0)),
 oT 12 17])
 (.cond (.t 12)
 .skip
 (.seq (.draw 4 [oT 19 0,
 oO 20 (.nilchk (.t 19)),
 oF 21 1 20,
 oH 22 1 21,
 oT 23 0,
 oO 24 (.nilchk (.t 23)),
 oF 25 0 24,
 oH 26 1 25,
 oO 27 (.slen (.t 26)),
 oB 28 .eql 22 27,
 oT 18 28])
 (.cond (.t 18)
 (.region [oT 29 0,
 oT 30 0,
 oO 31 (.nilchk (.t 30)),
 oF 32 1 31,
 oH 33 1 32,
 oO 34 (.icall (.c (.func 103 [])) [.t 29,.t 33,(.c (oI 3))])])
 (.seq (.draw 9 [oT 36 0,
 oO 37 (.nilchk (.t 36)),
 oF 38 0 37,
 oH 39 1 38,
 oT 40 0,
 oO 41 (.nilchk (.t 40)),
 oF 42 1 41,
 oH 43 1 42,
 oO 44 (.sidx (.t 39) (.t 43)),
 oT 45 1,
 oB 46 .neq 44 45,
 oT 35 46])
 (.cond (.t 35)
 (.region [oT 47 0,
 oT 48 0,
 oO 49 (.nilchk (.t 48)),
 oF 50 1 49,
 oH 51 1 50,
 oO 52 (.icall (.c (.func 103 [])) [.t 47,.t 51,(.c (oI 2))])])
 (.region [oT 5 0,
 oO 6 (.nilchk (.t 5)),
 oF 7 1 6,
 oH 8 1 7,
 oA 9 .add 8 (.c (oI 1)),
 oO 10 (.nilchk (.t 5)),
 oF 11 1 10,
 ⟨none,.store 1 (.t 11) (.t 9),none⟩]))))))))
 (oR ([oT 53 0,
 oO 54 (.nilchk (.t 53)),
 oF 55 3 54,
 oH 56 1 55,
 oA 57 .eql 56 (.c (oI 0)),
 oT 4 57])
 .ret)),
 [.tmp 4]⟩
def yHA : AFunc := ⟨66,
 oR ([oM 2 (.c (.int .u8 0))])
 (.seq (.draw 4 [oT 5 0,
 oO 6 (.nilchk (.t 5)),
 oF 7 0 6,
 oH 8 1 7,
 oT 9 0,
 oO 10 (.nilchk (.t 9)),
 oF 11 1 10,
 oH 12 1 11,
 oO 13 (.sslice (.t 8) (some (.t 12)) none),
 oT 3 13])
 (oR ([oT 14 3,
 oO 15 (.slen (.t 14)),
 oT 16 3,
 ⟨some 17,.call 113 [.t 16,(.c (.str ⟨#[48,49,50,51,52,53,54,55,56,57]⟩))],none⟩,
 oO 18 (.slen (.t 17)),
 oB 19 .sub 15 18,
 oT 4 19])
 (.seq (.block 0 (oR ([oT 21 3,
 ⟨some 22,.sbeq false (.t 21) (.c (.str ⟨#[]⟩)),none⟩,
 oT 20 22])
 (.cond (.t 20)
 (oR ([oT 23 0,
 oT 24 0,
 oO 25 (.nilchk (.t 24)),
 oF 26 1 25,
 oH 27 1 26,
 oO 28 (.icall (.c (.func 103 [])) [.t 23,.t 27,(.c (oI 3))])])
 (oR ([oM 2 (.c (.int .u8 0))])
 .ret))
 (oR ([oT 30 4,
 oA 31 .eql 30 (.c (oI 0)),
 oT 29 31])
 (.cond (.t 29)
 (oR ([oT 32 0,
 oT 33 0,
 oO 34 (.nilchk (.t 33)),
 oF 35 1 34,
 oH 36 1 35,
 oO 37 (.icall (.c (.func 103 [])) [.t 32,.t 36,(.c (oI 2))])])
 (oR ([oM 2 (.c (.int .u8 0))])
 .ret))
 (oR ([oT 39 3,
 oO 40 (.sidx (.t 39) (.c (oI 0))),
 oA 41 .eql 40 (.c (.int .u8 48)),
 oT 38 41])
 (.cond (.t 38)
 (.region [oM 4 (.c (oI 1))])
 .skip)))))))
 (.seq (oR ([oT 42 4,
 oA 43 .gtr 42 (.c (oI 1)),
 oT 44 43,
 ⟨some 45,.mov (.t 3),some (44,false)⟩,
 ⟨some 46,.sidx (.t 45) (.c (oI 0)),some (44,false)⟩,
 ⟨some 47,.bin .sub (.t 46) (.c (.int .u8 48)),some (44,false)⟩,
 ⟨some 48,.bin .gtr (.t 47) (.c (.int .u8 7)),some (44,false)⟩,
 oO 49 (.pick (.t 44) (.c (.bool true)) (.t 48))])
 (.cond (.t 49)
 (oR ([oT 50 0,
 oT 51 0,
 oO 52 (.nilchk (.t 51)),
 oF 53 1 52,
 oH 54 1 53,
 oO 55 (.icall (.c (.func 103 [])) [.t 50,.t 54,(.c (oI 1))])])
 (oR ([oM 2 (.c (.int .u8 0))])
 .ret))
 .skip))
 (oR ([oT 56 0,
 oO 57 (.nilchk (.t 56)),
 oF 58 1 57,
 oH 59 1 58,
 oA 60 .add 59 (.c (oI 1)),
 oO 61 (.nilchk (.t 56)),
 oF 62 1 61,
 ⟨none,.store 1 (.t 62) (.t 60),none⟩])
 (oR ([oT 63 3,
 oO 64 (.sidx (.t 63) (.c (oI 0))),
 oA 65 .sub 64 (.c (.int .u8 48)),
 oT 2 65])
 .ret)))))),
 [.tmp 2]⟩
def yHB : AFunc := ⟨37,
 oR ([⟨some 4,.mov (.c (.str ⟨#[]⟩)),none⟩])
 (.seq (oR ([oT 7 0,
 ⟨some 8,.sbeq false (.t 7) (.c (.str ⟨#[]⟩)),none⟩,
 oT 9 8,
 ⟨some 10,.mov (.t 1),some (9,false)⟩,
 ⟨some 11,.sbeq false (.t 10) (.c (.str ⟨#[]⟩)),some (9,false)⟩,
 oO 12 (.pick (.t 9) (.c (.bool true)) (.t 11))])
 (.cond (.t 12)
 (oR ([oT 13 0,
 oT 4 13])
 .ret)
 .skip))
 (.seq (oR ([oT 14 1,
 oO 15 (.slen (.t 14)),
 oA 16 .eql 15 (.c (oI 1)),
 oT 17 16,
 ⟨some 18,.mov (.t 1),some (17,true)⟩,
 ⟨some 19,.sidx (.t 18) (.c (oI 0)),some (17,true)⟩,
 ⟨some 20,.bin .lss (.t 19) (.c (.int .u8 128)),some (17,true)⟩,
 oO 21 (.pick (.t 17) (.t 20) (.c (.bool false)))])
 (.cond (.t 21)
 (oR ([oT 22 0,
 oT 23 1,
 oO 24 (.sidx (.t 23) (.c (oI 0))),
 oO 25 (.call 114 [.t 22,.t 24]),
 oT 4 25])
 .ret)
 .skip))
 (.seq (oR ([oT 27 1,
 oO 28 (.call 115 [.t 27]),
 oT 26 28,
 oO 29 (.ext 0 (.t 26)),
 oO 30 (.ext 1 (.t 26)),
 oX 5 (.c (.agg [.bool false,.bool false,.bool false,.bool false,.bool false,.bool false,.bool false,.bool false,.bool false,.bool false,.bool false,.bool false,.bool false,.bool false,.bool false,.bool false,.bool false,.bool false,.bool false,.bool false,.bool false,.bool false,.bool false,.bool false,.bool false,.bool false,.bool false,.bool false,.bool false,.bool false,.bool false,.bool false,.bool false,.bool false,.bool false,.bool false,.bool false,.bool false,.bool false,.bool false,.bool false,.bool false,.bool false,.bool false,.bool false,.bool false,.bool false,.bool false,.bool false,.bool false,.bool false,.bool false,.bool false,.bool false,.bool false,.bool false,.bool false,.bool false,.bool false,.bool false,.bool false,.bool false,.bool false,.bool false,.bool false,.bool false,.bool false,.bool false,.bool false,.bool false,.bool false,.bool false,.bool false,.bool false,.bool false,.bool false,.bool false,.bool false,.bool false,.bool false,.bool false,.bool false,.bool false,.bool false,.bool false,.bool false,.bool false,.bool false,.bool false,.bool false,.bool false,.bool false,.bool false,.bool false,.bool false,.bool false,.bool false,.bool false,.bool false,.bool false,.bool false,.bool false,.bool false,.bool false,.bool false,.bool false,.bool false,.bool false,.bool false,.bool false,.bool false,.bool false,.bool false,.bool false,.bool false,.bool false,.bool false,.bool false,.bool false,.bool false,.bool false,.bool false,.bool false,.bool false,.bool false,.bool false,.bool false,.bool false,.bool false,.bool false,.bool false,.bool false,.bool false,.bool false,.bool false,.bool false,.bool false,.bool false,.bool false,.bool false,.bool false,.bool false,.bool false,.bool false,.bool false,.bool false,.bool false,.bool false,.bool false,.bool false,.bool false,.bool false,.bool false,.bool false,.bool false,.bool false,.bool false,.bool false,.bool false,.bool false,.bool false,.bool false,.bool false,.bool false,.bool false,.bool false,.bool false,.bool false,.bool false,.bool false,.bool false,.bool false,.bool false,.bool false,.bool false,.bool false,.bool false,.bool false,.bool false,.bool false,.bool false,.bool false,.bool false,.bool false,.bool false,.bool false,.bool false,.bool false,.bool false,.bool false,.bool false,.bool false,.bool false,.bool false,.bool false,.bool false,.bool false,.bool false,.bool false,.bool false,.bool false,.bool false,.bool false,.bool false,.bool false,.bool false,.bool false,.bool false,.bool false,.bool false,.bool false,.bool false,.bool false,.bool false,.bool false,.bool false,.bool false,.bool false,.bool false,.bool false,.bool false,.bool false,.bool false,.bool false,.bool false,.bool false,.bool false,.bool false,.bool false,.bool false,.bool false,.bool false,.bool false,.bool false,.bool false,.bool false,.bool false,.bool false,.bool false,.bool false,.bool false,.bool false,.bool false,.bool false,.bool false,.bool false,.bool false,.bool false,.bool false,.bool false,.bool false,.bool false,.bool false,.bool false,.bool false,.bool false])),
 ⟨none,.store 256 (.t 5) (.t 29),none⟩,
 oT 6 30])
 (oR ([oT 31 6])
 (.cond (.t 31)
 (oR ([oT 32 0,
 oO 33 (.icall (.c (.func 116 [])) [.t 32,.t 5]),
 oT 4 33])
 .ret)
 .skip)))
 (oR ([oT 34 0,
 oT 35 1,
 oO 36 (.call 117 [.t 34,.t 35]),
 oT 4 36])
 .ret)))),
 [.tmp 4]⟩
def yCW : ACode :=
 .seq (oR ([oT 5 0,
 oO 6 (.slen (.t 5)),
 oA 7 .gtr 6 (.c (oI 0)),
 oT 8 7,
 ⟨some 9,.mov (.t 0),some (8,true)⟩,
 ⟨some 10,.sidx (.t 9) (.c (oI 0)),some (8,true)⟩,
 ⟨some 11,.mov (.t 1),some (8,true)⟩,
 ⟨some 12,.bin .eql (.t 10) (.t 11),some (8,true)⟩,
 oO 13 (.pick (.t 8) (.t 12) (.c (.bool false)))])
 (.cond (.t 13)
 .skip
 (.exit 0)))
 (.block 1 (.region [oT 14 0,
 oO 15 (.sslice (.t 14) (some (.c (oI 1))) none),
 oT 0 15]))
def yEG : ACode := yCW
def yCX : List Nat := [2,3,4,5,6,7,8,9,10,11,12,13,14,15,16]
def yHC : AFunc := ⟨17,
 oR ([⟨some 4,.mov (.c (.str ⟨#[]⟩)),none⟩])
 (.seq (.block 0 (.loop yCX yEG))
 (oR ([oT 16 0,
 oT 4 16])
 .ret)),
 [.tmp 4]⟩
def yCY : ACode :=
 .seq (oR ([oT 6 4,
 oT 7 0,
 oO 8 (.slen (.t 7)),
 oB 9 .lss 6 8])
 (.cond (.t 9)
 .skip
 (.exit 0)))
 (.seq (.block 1 (oR ([oT 12 0,
 oT 13 4,
 oO 14 (.sidx (.t 12) (.t 13)),
 oT 5 14])
 (.seq (oR ([oT 15 5,
 oA 16 .geq 15 (.c (.int .u8 128))])
 (.cond (.t 16)
 (oR ([oG 17 256 2,
 ⟨none,.store 256 (.t 2) (.t 17),none⟩,
 oM 3 (.c (.bool false))])
 .ret)
 .skip))
 (.region [oT 18 5,
 oO 19 (.arrat 1 256 (.t 2) (.t 18)),
 ⟨none,.store 1 (.t 19) (.c (.bool true)),none⟩]))))
 (.region [oT 10 4,
 oA 11 .add 10 (.c (oI 1)),
 oT 4 11]))
def yEH : ACode := yCY
def yCZ : List Nat := [1,5,6,7,8,9,10,11,12,13,14,15,16,17,18,19,20]
def yHD : AFunc := ⟨21,
 oR ([oX 2 (.c (.agg [.bool false,.bool false,.bool false,.bool false,.bool false,.bool false,.bool false,.bool false,.bool false,.bool false,.bool false,.bool false,.bool false,.bool false,.bool false,.bool false,.bool false,.bool false,.bool false,.bool false,.bool false,.bool false,.bool false,.bool false,.bool false,.bool false,.bool false,.bool false,.bool false,.bool false,.bool false,.bool false,.bool false,.bool false,.bool false,.bool false,.bool false,.bool false,.bool false,.bool false,.bool false,.bool false,.bool false,.bool false,.bool false,.bool false,.bool false,.bool false,.bool false,.bool false,.bool false,.bool false,.bool false,.bool false,.bool false,.bool false,.bool false,.bool false,.bool false,.bool false,.bool false,.bool false,.bool false,.bool false,.bool false,.bool false,.bool false,.bool false,.bool false,.bool false,.bool false,.bool false,.bool false,.bool false,.bool false,.bool false,.bool false,.bool false,.bool false,.bool false,.bool false,.bool false,.bool false,.bool false,.bool false,.bool false,.bool false,.bool false,.bool false,.bool false,.bool false,.bool false,.bool false,.bool false,.bool false,.bool false,.bool false,.bool false,.bool false,.bool false,.bool false,.bool false,.bool false,.bool false,.bool false,.bool false,.bool false,.bool false,.bool false,.bool false,.bool false,.bool false,.bool false,.bool false,.bool false,.bool false,.bool false,.bool false,.bool false,.bool false,.bool false,.bool false,.bool false,.bool false,.bool false,.bool false,.bool false,.bool false,.bool false,.bool false,.bool false,.bool false,.bool false,.bool false,.bool false,.bool false,.bool false,.bool false,.bool false,.bool false,.bool false,.bool false,.bool false,.bool false,.bool false,.bool false,.bool false,.bool false,.bool false,.bool false,.bool false,.bool false,.bool false,.bool false,.bool false,.bool false,.bool false,.bool false,.bool false,.bool false,.bool false,.bool false,.bool false,.bool false,.bool false,.bool false,.bool false,.bool false,.bool false,.bool false,.bool false,.bool false,.bool false,.bool false,.bool false,.bool false,.bool false,.bool false,.bool false,.bool false,.bool false,.bool false,.bool false,.bool false,.bool false,.bool false,.bool false,.bool false,.bool false,.bool false,.bool false,.bool false,.bool false,.bool false,.bool false,.bool false,.bool false,.bool false,.bool false,.bool false,.bool false,.bool false,.bool false,.bool false,.bool false,.bool false,.bool false,.bool false,.bool false,.bool false,.bool false,.bool false,.bool false,.bool false,.bool false,.bool false,.bool false,.bool false,.bool false,.bool false,.bool false,.bool false,.bool false,.bool false,.bool false,.bool false,.bool false,.bool false,.bool false,.bool false,.bool false,.bool false,.bool false,.bool false,.bool false,.bool false,.bool false,.bool false,.bool false,.bool false,.bool false,.bool false,.bool false,.bool false,.bool false,.bool false,.bool false,.bool false,.bool false,.bool false,.bool false,.bool false,.bool false,.bool false,.bool false,.bool false])),
 oM 3 (.c (.bool false))])
 (.seq (oR ([oM 4 (.c (oI 0))])
 (.block 0 (.loop yCZ yEH)))
 (oR ([oG 20 256 2,
 ⟨none,.store 256 (.t 2) (.t 20),none⟩,
 oM 3 (.c (.bool true))])
 .ret)),
 [.cell 2 true 256,.tmp 3]⟩
def yC0 : ACode :=
 .seq (oR ([oT 5 0,
 oO 6 (.slen (.t 5)),
 oA 7 .gtr 6 (.c (oI 0))])
 (.cond (.t 7)
 .skip
 (.exit 0)))
 (.block 1 (.seq (oR ([oT 8 1,
 oT 9 0,
 oO 10 (.sidx (.t 9) (.c (oI 0))),
 oO 11 (.icall (.c (.func 118 [])) [.t 8,.t 10]),
 oO 12 (.un .not (.t 11))])
 (.cond (.t 12)
 (.exit 0)
 .skip))
 (.region [oT 13 0,
 oO 14 (.sslice (.t 13) (some (.c (oI 1))) none),
 oT 0 14])))
def yEI : ACode := yC0
def yC1 : List Nat := [2,3,4,5,6,7,8,9,10,11,12,13,14,15]
def yHE : AFunc := ⟨16,
 oR ([⟨some 4,.mov (.c (.str ⟨#[]⟩)),none⟩])
 (.seq (.block 0 (.loop yC1 yEI))
 (oR ([oT 15 0,
 oT 4 15])
 .ret)),
 [.tmp 4]⟩
def yC2 : ACode :=
 .seq (oR ([oT 7 0,
 oO 8 (.slen (.t 7)),
 oA 9 .gtr 8 (.c (oI 0))])
 (.cond (.t 9)
 .skip
 (.exit 0)))
 (.block 1 (oR ([oT 11 0,
 oO 12 (.call 119 [.t 11]),
 oT 10 12,
 oO 13 (.ext 0 (.t 10)),
 oO 14 (.ext 1 (.t 10)),
 oT 5 13,
 oT 6 14])
 (.seq (oR ([oT 15 1,
 oT 16 5,
 oO 17 (.call 120 [.t 15,.t 16]),
 oO 18 (.un .not (.t 17))])
 (.cond (.t 18)
 (.exit 0)
 .skip))
 (.region [oT 19 0,
 oT 20 6,
 oO 21 (.sslice (.t 19) (some (.t 20)) none),
 oT 0 21]))))
def yEJ : ACode := yC2
def yC3 : List Nat := [2,3,4,5,6,7,8,9,10,11,12,13,14,15,16,17,18,19,20,21,22]
def yHF : AFunc := ⟨23,
 oR ([⟨some 4,.mov (.c (.str ⟨#[]⟩)),none⟩])
 (.seq (.block 0 (.loop yC3 yEJ))
 (oR ([oT 22 0,
 oT 4 22])
 .ret)),
 [.tmp 4]⟩
def yHG : AFunc := ⟨10,
 oR ([oM 4 (.c (.bool false))])
 (oR ([oT 5 0,
 oT 6 1,
 oO 7 (.nilchk (.t 5)),
 oO 8 (.arrat 1 256 (.t 7) (.t 6)),
 oH 9 1 8,
 oT 4 9])
 .ret),
 [.tmp 4]⟩
def yHH : AFunc := ⟨19,
 oR ([oM 2 (.c (.int .i32 0)),
 oM 3 (.c (oI 0))])
 (.seq (oR ([oT 4 0,
 ⟨some 5,.sbeq true (.t 4) (.c (.str ⟨#[]⟩)),none⟩,
 oT 6 5,
 ⟨some 7,.mov (.t 0),some (6,true)⟩,
 ⟨some 8,.sidx (.t 7) (.c (oI 0)),some (6,true)⟩,
 ⟨some 9,.bin .lss (.t 8) (.c (.int .u8 128)),some (6,true)⟩,
 oO 10 (.pick (.t 6) (.t 9) (.c (.bool false)))])
 (.cond (.t 10)
 (oR ([oT 11 0,
 oO 12 (.sidx (.t 11) (.c (oI 0))),
 oO 13 (.conv .i32 (.t 12)),
 oT 2 13,
 oM 3 (.c (oI 1))])
 .ret)
 (.region [oT 15 0,
 oO 16 (.call 121 [.t 15]),
 oT 14 16,
 oO 17 (.ext 0 (.t 14)),
 oO 18 (.ext 1 (.t 14)),
 oT 2 17,
 oT 3 18])))
 .ret),
 [.tmp 2,.tmp 3]⟩
def yHI : AFunc := ⟨9,
 oR ([oM 4 (.c (.bool false))])
 (oR ([oT 5 0,
 oT 6 1,
 oO 7 (.call 122 [.t 5,.t 6]),
 oA 8 .geq 7 (.c (oI 0)),
 oT 4 8])
 .ret),
 [.tmp 4]⟩
def yHJ : AFunc := ⟨117,
 oR ([oM 2 (.c (.int .i32 0)),
 oM 3 (.c (oI 0))])
 (oR ([oT 13 0,
 oO 14 (.slen (.t 13)),
 oT 4 14])
 (.seq (oR ([oT 15 4,
 oA 16 .lss 15 (.c (oI 1))])
 (.cond (.t 16)
 (oR ([oM 2 (.c (.int .i32 65533)),
 oM 3 (.c (oI 0))])
 .ret)
 .skip))
 (oR ([oT 17 0,
 oO 18 (.sidx (.t 17) (.c (oI 0))),
 oT 5 18])
 (oR ([oT 19 5,
 oO 20 (.garr 0 1 256 (.t 19)),
 oH 21 1 20,
 oT 6 21])
 (.seq (oR ([oT 22 6,
 oA 23 .geq 22 (.c (.int .u8 240))])
 (.cond (.t 23)
 (oR ([oT 24 6,
 oO 25 (.conv .i32 (.t 24)),
 oA 26 .shl 25 (.c (.int .u64 31)),
 oA 27 .shr 26 (.c (.int .u64 31)),
 oT 7 27])
 (oR ([oT 28 0,
 oO 29 (.sidx (.t 28) (.c (oI 0))),
 oO 30 (.conv .i32 (.t 29)),
 oT 31 7,
 oB 32 .andNot 30 31,
 oT 33 7,
 oO 34 (.bin .and (.c (.int .i32 65533)) (.t 33)),
 oB 35 .or 32 34,
 oT 2 35,
 oM 3 (.c (oI 1))])
 .ret))
 .skip))
 (oR ([oT 36 6,
 oA 37 .and 36 (.c (.int .u8 7)),
 oO 38 (.conv .i64 (.t 37)),
 oT 8 38])
 (oR ([oT 39 6,
 oA 40 .shr 39 (.c (.int .u64 4)),
 oO 41 (.garr 1 2 16 (.t 40)),
 oG 42 2 41,
 oX 9 (.c (.agg [.int .u8 0,.int .u8 0])),
 ⟨none,.store 2 (.t 9) (.t 42),none⟩])
 (.seq (oR ([oT 43 4,
 oT 44 8,
 oB 45 .lss 43 44])
 (.cond (.t 45)
 (oR ([oM 2 (.c (.int .i32 65533)),
 oM 3 (.c (oI 1))])
 .ret)
 .skip))
 (oR ([oT 46 0,
 oO 47 (.sidx (.t 46) (.c (oI 1))),
 oT 10 47])
 (.seq (oR ([oT 48 10,
 oF 49 0 9,
 oH 50 1 49,
 oB 51 .lss 48 50,
 oT 52 51,
 ⟨some 53,.faddr 1 (.t 9),some (52,false)⟩,
 ⟨some 54,.load false 1 (.t 53),some (52,false)⟩,
 ⟨some 55,.mov (.t 10),some (52,false)⟩,
 ⟨some 56,.bin .lss (.t 54) (.t 55),some (52,false)⟩,
 oO 57 (.pick (.t 52) (.c (.bool true)) (.t 56))])
 (.cond (.t 57)
 (oR ([oM 2 (.c (.int .i32 65533)),
 oM 3 (.c (oI 1))])
 .ret)
 .skip))
 (.seq (oR ([oT 58 8,
 oA 59 .leq 58 (.c (oI 2))])
 (.cond (.t 59)
 (oR ([oT 60 5,
 oA 61 .and 60 (.c (.int .u8 31)),
 oO 62 (.conv .i32 (.t 61)),
 oA 63 .shl 62 (.c (.int .u64 6)),
 oT 64 10,
 oA 65 .and 64 (.c (.int .u8 63)),
 oO 66 (.conv .i32 (.t 65)),
 oB 67 .or 63 66,
 oT 2 67,
 oM 3 (.c (oI 2))])
 .ret)
 .skip))
 (oR ([oT 68 0,
 oO 69 (.sidx (.t 68) (.c (oI 2))),
 oT 11 69])
 (.seq (oR ([oT 70 11,
 oA 71 .lss 70 (.c (.int .u8 128)),
 oT 72 71,
 ⟨some 73,.mov (.t 11),some (72,false)⟩,
 ⟨some 74,.bin .lss (.c (.int .u8 191)) (.t 73),some (72,false)⟩,
 oO 75 (.pick (.t 72) (.c (.bool true)) (.t 74))])
 (.cond (.t 75)
 (oR ([oM 2 (.c (.int .i32 65533)),
 oM 3 (.c (oI 1))])
 .ret)
 .skip))
 (.seq (oR ([oT 76 8,
 oA 77 .leq 76 (.c (oI 3))])
 (.cond (.t 77)
 (oR ([oT 78 5,
 oA 79 .and 78 (.c (.int .u8 15)),
 oO 80 (.conv .i32 (.t 79)),
 oA 81 .shl 80 (.c (.int .u64 12)),
 oT 82 10,
 oA 83 .and 82 (.c (.int .u8 63)),
 oO 84 (.conv .i32 (.t 83)),
 oA 85 .shl 84 (.c (.int .u64 6)),
 oB 86 .or 81 85,
 oT 87 11,
 oA 88 .and 87 (.c (.int .u8 63)),
 oO 89 (.conv .i32 (.t 88)),
 oB 90 .or 86 89,
 oT 2 90,
 oM 3 (.c (oI 3))])
 .ret)
 .skip))
 (oR ([oT 91 0,
 oO 92 (.sidx (.t 91) (.c (oI 3))),
 oT 12 92])
 (.seq (oR ([oT 93 12,
 oA 94 .lss 93 (.c (.int .u8 128)),
 oT 95 94,
 ⟨some 96,.mov (.t 12),some (95,false)⟩,
 ⟨some 97,.bin .lss (.c (.int .u8 191)) (.t 96),some (95,false)⟩,
 oO 98 (.pick (.t 95) (.c (.bool true)) (.t 97))])
 (.cond (.t 98)
 (oR ([oM 2 (.c (.int .i32 65533)),
 oM 3 (.c (oI 1))])
 .ret)
 .skip))
 (oR ([oT 99 5,
 oA 100 .and 99 (.c (.int .u8 7)),
 oO 101 (.conv .i32 (.t 100)),
 oA 102 .shl 101 (.c (.int .u64 18)),
 oT 103 10,
 oA 104 .and 103 (.c (.int .u8 63)),
 oO 105 (.conv .i32 (.t 104)),
 oA 106 .shl 105 (.c (.int .u64 12)),
 oB 107 .or 102 106,
 oT 108 11,
 oA 109 .and 108 (.c (.int .u8 63)),
 oO 110 (.conv .i32 (.t 109)),
 oA 111 .shl 110 (.c (.int .u64 6)),
 oB 112 .or 107 111,
 oT 113 12,
 oA 114 .and 113 (.c (.int .u8 63)),
 oO 115 (.conv .i32 (.t 114)),
 oB 116 .or 112 115,
 oT 2 116,
 oM 3 (.c (oI 4))])
 .ret))))))))))))))))),
 [.tmp 2,.tmp 3]⟩
def yC4 : ACode :=
 .seq (.stuck)
 (.seq (.cond (.t 177)
 .skip
 (.exit 9))
 (.block 10 (oR ([oO 178 (.ext 1 (.t 176)),
 oO 179 (.ext 2 (.t 176)),
 oT 5 178,
 oT 6 179])
 (oR ([oT 180 6,
 oA 181 .eql 180 (.c (.int .i32 65533))])
 (.cond (.t 181)
 (oR ([oT 182 5,
 oT 4 182])
 .ret)
 .skip)))))
def yEK : ACode := yC4
def yC5 : List Nat := [0,1,2,3,5,6,7,8,9,10,11,12,13,14,15,16,17,18,19,20,21,22,23,24,25,26,27,28,29,30,31,32,33,34,35,36,37,38,39,40,41,42,43,44,45,46,47,48,49,50,51,52,53,54,55,56,57,58,59,60,61,62,63,64,65,66,67,68,69,70,71,72,73,74,75,76,77,78,79,80,81,82,83,84,85,86,87,88,89,90,91,92,93,94,95,96,97,98,99,100,101,102,103,104,105,106,107,108,109,110,111,112,113,114,115,116,117,118,119,120,121,122,123,124,125,126,127,128,129,130,131,132,133,134,135,136,137,138,139,140,141,142,143,144,145,146,147,148,149,150,151,152,153,154,155,156,157,158,159,160,161,162,163,164,165,166,167,168,169,170,171,172,173,174,175,176,177,178,179,180,181,182,183,184,185,186]
def yC6 : ACode :=
 .seq (oR ([oT 48 12,
 oT 49 7,
 oO 50 (.slen (.t 49)),
 oB 51 .lss 48 50])
 (.cond (.t 51)
 .skip
 (.exit 3)))
 (.seq (.block 4 (.seq (.draw 7 [oT 54 0,
 oT 55 9,
 oT 56 12,
 oB 57 .sub 55 56,
 oO 58 (.sidx (.t 54) (.t 57)),
 oT 59 7,
 oT 60 8,
 oT 61 12,
 oB 62 .sub 60 61,
 oO 63 (.sidx (.t 59) (.t 62)),
 oB 64 .neq 58 63])
 (.cond (.t 64)
 (.stuck)
 .skip)))
 (.region [oT 52 12,
 oA 53 .add 52 (.c (oI 1)),
 oT 12 53]))
def yEL : ACode := yC6
def yC7 : List Nat := [1,2,3,4,5,6,10,11,13,14,15,16,17,18,19,20,21,22,23,24,25,26,27,28,29,30,31,32,33,34,35,36,37,38,39,40,41,42,43,44,45,46,47,48,49,50,51,52,53,54,55,56,57,58,59,60,61,62,63,64,65,66,67,68,69,70,71,72,73,74,75,76,77,78,79,80,81,82,83,84,85,86,87,88,89,90,91,92,93,94,95,96,97,98,99,100,101,102,103,104,105,106,107,108,109,110,111,112,113,114,115,116,117,118,119,120,121,122,123,124,125,126,127,128,129,130,131,132,133,134,135,136,137,138,139,140,141,142,143,144,145,146,147,148,149,150,151,152,153,154,155,156,157,158,159,160,161,162,163,164,165,166,167,168,169,170,171,172,173,174,175,176,177,178,179,180,181,182,183,184,185,186]
def yC8 : ACode :=
 .seq (oR ([oT 23 9,
 oT 24 0,
 oO 25 (.slen (.t 24)),
 oB 26 .lss 23 25])
 (.cond (.t 26)
 .skip
 (.exit 1)))
 (.block 2 (.scope (.seq (.seq (.draw 4 [oT 27 0,
 oT 28 9,
 oO 29 (.sidx (.t 27) (.t 28)),
 oT 30 7,
 oT 31 8,
 oO 32 (.sidx (.t 30) (.t 31)),
 oB 33 .neq 29 32])
 (.cond (.t 33)
 (.seq (.draw 5 [oT 34 0,
 oT 35 9,
 oA 36 .add 35 (.c (oI 1)),
 oO 37 (.sslice (.t 34) (some (.t 36)) none),
 oT 38 7,
 oT 39 8,
 oO 40 (.sidx (.t 38) (.t 39)),
 oO 41 (.call 123 [.t 37,.t 40]),
 oT 11 41])
 (.seq (oR ([oT 42 11,
 oA 43 .lss 42 (.c (oI 0))])
 (.cond (.t 43)
 (oR ([oM 4 (.c (.int .i64 (-1)))])
 .ret)
 .skip))
 (.region [oT 44 9,
 oT 45 11,
 oA 46 .add 45 (.c (oI 1)),
 oB 47 .add 44 46,
 oT 9 47])))
 .skip))
 (.seq (oR ([oM 12 (.c (oI 1))])
 (.block 3 (.loop yC7 yEL)))
 (.seq (oR ([oT 65 9,
 oT 66 8,
 oB 67 .sub 65 66,
 oT 4 67])
 .ret)
 (.seq (.label)
 (oR ([oT 68 10,
 oA 69 .add 68 (.c (oI 1)),
 oT 10 69])
 (oR ([oT 70 9,
 oA 71 .add 70 (.c (oI 1)),
 oT 9 71])
 (oR ([oM 72 (.c (.bool true)),
 ⟨some 73,.mov (.t 10),some (72,true)⟩,
 ⟨some 74,.mov (.t 9),some (72,true)⟩,
 ⟨some 75,.call 125 [.t 74],some (72,true)⟩,
 ⟨some 76,.bin .gtr (.t 73) (.t 75),some (72,true)⟩,
 oO 77 (.pick (.t 72) (.t 76) (.c (.bool false))),
 oT 78 77,
 ⟨some 79,.mov (.t 9),some (78,true)⟩,
 ⟨some 80,.mov (.t 0),some (78,true)⟩,
 ⟨some 81,.slen (.t 80),some (78,true)⟩,
 ⟨some 82,.bin .lss (.t 79) (.t 81),some (78,true)⟩,
 oO 83 (.pick (.t 78) (.t 82) (.c (.bool false))),
 oT 84 83,
 ⟨some 85,.mov (.c (.bool false)),some (84,false)⟩,
 ⟨some 86,.mov (.t 10),some (85,true)⟩,
 ⟨some 87,.mov (.t 9),some (85,true)⟩,
 ⟨some 88,.bin .shr (.t 87) (.c (.int .u64 4)),some (85,true)⟩,
 ⟨some 89,.bin .add (.c (oI 4)) (.t 88),some (85,true)⟩,
 ⟨some 90,.bin .geq (.t 86) (.t 89),some (85,true)⟩,
 ⟨some 91,.pick (.t 85) (.t 90) (.c (.bool false)),some (84,false)⟩,
 ⟨some 92,.mov (.t 91),some (84,false)⟩,
 ⟨some 93,.mov (.t 9),some (92,true)⟩,
 ⟨some 94,.mov (.t 0),some (92,true)⟩,
 ⟨some 95,.slen (.t 94),some (92,true)⟩,
 ⟨some 96,.bin .lss (.t 93) (.t 95),some (92,true)⟩,
 ⟨some 97,.pick (.t 92) (.t 96) (.c (.bool false)),some (84,false)⟩,
 oO 98 (.pick (.t 84) (.c (.bool true)) (.t 97))])
 (.cond (.t 98)
 (.stuck)
 .skip))))))))))
def yEM : ACode := yC8
def yC9 : List Nat := [1,2,3,5,6,10,11,12,13,14,15,16,17,18,19,20,21,22,23,24,25,26,27,28,29,30,31,32,33,34,35,36,37,38,39,40,41,42,43,44,45,46,47,48,49,50,51,52,53,54,55,56,57,58,59,60,61,62,63,64,65,66,67,68,69,70,71,72,73,74,75,76,77,78,79,80,81,82,83,84,85,86,87,88,89,90,91,92,93,94,95,96,97,98,99,100,101,102,103,104,105,106,107,108,109,110,111,112,113,114,115,116,117,118,119,120,121,122,123,124,125,126,127,128,129,130,131,132,133,134,135,136,137,138,139,140,141,142,143,144,145,146,147,148,149,150,151,152,153,154,155,156,157,158,159,160,161,162,163,164,165,166,167,168,169,170,171,172,173,174,175,176,177,178,179,180,181,182,183,184,185,186]
def yDa : ACode :=
 .seq (oR ([oT 140 16,
 oT 141 7,
 oO 142 (.slen (.t 141)),
 oB 143 .lss 140 142])
 (.cond (.t 143)
 .skip
 (.exit 7)))
 (.seq (.block 8 (.seq (.draw 7 [oT 146 0,
 oT 147 9,
 oT 148 16,
 oB 149 .sub 147 148,
 oO 150 (.sidx (.t 146) (.t 149)),
 oT 151 7,
 oT 152 8,
 oT 153 16,
 oB 154 .sub 152 153,
 oO 155 (.sidx (.t 151) (.t 154)),
 oB 156 .neq 150 155])
 (.cond (.t 156)
 (.exit 6)
 .skip)))
 (.region [oT 144 16,
 oA 145 .add 144 (.c (oI 1)),
 oT 16 145]))
def yEN : ACode := yDa
def yDb : List Nat := [1,2,3,4,5,6,10,11,12,13,17,18,19,20,21,22,23,24,25,26,27,28,29,30,31,32,33,34,35,36,37,38,39,40,41,42,43,44,45,46,47,48,49,50,51,52,53,54,55,56,57,58,59,60,61,62,63,64,65,66,67,68,69,70,71,72,73,74,75,76,77,78,79,80,81,82,83,84,85,86,87,88,89,90,91,92,93,94,95,96,97,98,99,100,101,102,103,104,105,106,107,108,109,110,111,112,113,114,115,116,117,118,119,120,121,122,123,124,125,126,127,128,129,130,131,132,133,134,135,136,137,138,139,140,141,142,143,144,145,146,147,148,149,150,151,152,153,154,155,156,157,158,159,160,161,162,163,164,165,166,167,168,169,170,171,172,173,174,175,176,177,178,179,180,181,182,183,184,185,186]
def yDc : ACode :=
 .seq (oR ([oT 121 9,
 oT 122 0,
 oO 123 (.slen (.t 122)),
 oB 124 .lss 121 123])
 (.cond (.t 124)
 .skip
 (.exit 5)))
 (.seq (.block 6 (oR ([oT 127 0,
 oT 128 9,
 oO 129 (.sidx (.t 127) (.t 128)),
 oT 130 14,
 oB 131 .eql 129 130,
 oT 132 131,
 ⟨some 133,.mov (.t 0),some (132,true)⟩,
 ⟨some 134,.mov (.t 9),some (132,true)⟩,
 ⟨some 135,.bin .sub (.t 134) (.c (oI 1)),some (132,true)⟩,
 ⟨some 136,.sidx (.t 133) (.t 135),some (132,true)⟩,
 ⟨some 137,.mov (.t 15),some (132,true)⟩,
 ⟨some 138,.bin .eql (.t 136) (.t 137),some (132,true)⟩,
 oO 139 (.pick (.t 132) (.t 138) (.c (.bool false)))])
 (.cond (.t 139)
 (.seq (oR ([oM 16 (.c (oI 2))])
 (.block 7 (.loop yDb yEN)))
 (oR ([oT 157 9,
 oT 158 8,
 oB 159 .sub 157 158,
 oT 4 159])
 .ret))
 .skip)))
 (.region [oT 125 9,
 oA 126 .add 125 (.c (oI 1)),
 oT 9 126]))
def yEO : ACode := yDc
def yDd : List Nat := [1,2,3,5,6,10,11,12,13,16,17,18,19,20,21,22,23,24,25,26,27,28,29,30,31,32,33,34,35,36,37,38,39,40,41,42,43,44,45,46,47,48,49,50,51,52,53,54,55,56,57,58,59,60,61,62,63,64,65,66,67,68,69,70,71,72,73,74,75,76,77,78,79,80,81,82,83,84,85,86,87,88,89,90,91,92,93,94,95,96,97,98,99,100,101,102,103,104,105,106,107,108,109,110,111,112,113,114,115,116,117,118,119,120,121,122,123,124,125,126,127,128,129,130,131,132,133,134,135,136,137,138,139,140,141,142,143,144,145,146,147,148,149,150,151,152,153,154,155,156,157,158,159,160,161,162,163,164,165,166,167,168,169,170,171,172,173,174,175,176,177,178,179,180,181,182,183,184,185,186]
def yHK : AFunc := ⟨187,
 oR ([oM 4 (.c (oI 0))])
 (.block 0 (oR ([oT 161 1,
 oO 162 (.bin .leq (.c (.int .i32 0)) (.t 161)),
 oT 163 162,
 ⟨some 164,.mov (.t 1),some (163,true)⟩,
 ⟨some 165,.bin .lss (.t 164) (.c (.int .i32 128)),some (163,true)⟩,
 oO 166 (.pick (.t 163) (.t 165) (.c (.bool false))),
 oT 160 166])
 (.cond (.t 160)
 (oR ([oT 167 0,
 oT 168 1,
 oO 169 (.conv .u8 (.t 168)),
 oO 170 (.call 123 [.t 167,.t 169]),
 oT 4 170])
 .ret)
 (oR ([oT 172 1,
 oA 173 .eql 172 (.c (.int .i32 65533)),
 oT 171 173])
 (.cond (.t 171)
 (.seq (.seq (.stuck)
 (.block 9 (.loop yC5 yEK)))
 (oR ([oM 4 (.c (.int .i64 (-1)))])
 .ret))
 (oR ([oT 184 1,
 oO 185 (.call 124 [.t 184]),
 oO 186 (.un .not (.t 185)),
 oT 183 186])
 (.cond (.t 183)
 (oR ([oM 4 (.c (.int .i64 (-1)))])
 .ret)
 (.scope (.seq (.stuck)
 (oR ([oT 19 7,
 oO 20 (.slen (.t 19)),
 oA 21 .sub 20 (.c (oI 1)),
 oT 8 21])
 (oR ([oT 22 8,
 oT 9 22])
 (oR ([oM 10 (.c (oI 0))])
 (.seq (.block 1 (.loop yC9 yEM))
 (.seq (oR ([oM 4 (.c (.int .i64 (-1)))])
 .ret)
 (.seq (.label)
 (.seq (.cond (.c (.bool true))
 (.seq (.stuck)
 (oR ([oT 107 13,
 oA 108 .geq 107 (.c (oI 0))])
 (.cond (.t 108)
 (oR ([oT 109 9,
 oT 110 13,
 oB 111 .add 109 110,
 oT 112 8,
 oB 113 .sub 111 112,
 oT 4 113])
 .ret)
 .skip)))
 (.scope (oR ([oT 114 7,
 oT 115 8,
 oO 116 (.sidx (.t 114) (.t 115)),
 oT 14 116])
 (oR ([oT 117 7,
 oT 118 8,
 oA 119 .sub 118 (.c (oI 1)),
 oO 120 (.sidx (.t 117) (.t 119)),
 oT 15 120])
 (.seq (.label)
 (.block 5 (.loop yDd yEO)))))))
 (oR ([oM 4 (.c (.int .i64 (-1)))])
 .ret))))))))))))))))),
 [.tmp 4]⟩
def yHL : AFunc := ⟨8,
 oR ([oM 4 (.c (oI 0))])
 (oR ([oT 5 0,
 oT 6 1,
 oO 7 (.call 127 [.t 5,.t 6]),
 oT 4 7])
 .ret),
 [.tmp 4]⟩
def yHM : AFunc := ⟨17,
 oR ([oM 2 (.c (.bool false))])
 (.seq (.block 0 (oR ([oT 4 0,
 oO 5 (.bin .leq (.c (.int .i32 0)) (.t 4)),
 oT 6 5,
 ⟨some 7,.mov (.t 0),some (6,true)⟩,
 ⟨some 8,.bin .lss (.t 7) (.c (.int .i32 55296)),some (6,true)⟩,
 oO 9 (.pick (.t 6) (.t 8) (.c (.bool false))),
 oT 3 9])
 (.cond (.t 3)
 (oR ([oM 2 (.c (.bool true))])
 .ret)
 (oR ([oT 11 0,
 oO 12 (.bin .lss (.c (.int .i32 57343)) (.t 11)),
 oT 13 12,
 ⟨some 14,.mov (.t 0),some (13,true)⟩,
 ⟨some 15,.bin .leq (.t 14) (.c (.int .i32 1114111)),some (13,true)⟩,
 oO 16 (.pick (.t 13) (.t 15) (.c (.bool false))),
 oT 10 16])
 (.cond (.t 10)
 (oR ([oM 2 (.c (.bool true))])
 .ret)
 .skip)))))
 (oR ([oM 2 (.c (.bool false))])
 .ret)),
 [.tmp 2]⟩
def yHN : AFunc := ⟨6,
 oR ([oM 2 (.c (oI 0))])
 (oR ([oT 3 0,
 oA 4 .add 3 (.c (oI 16)),
 oA 5 .quo 4 (.c (oI 8)),
 oT 2 5])
 .ret),
 [.tmp 2]⟩
def yHO : AFunc := ⟨8,
 oR ([oM 4 (.c (oI 0))])
 (.seq (.stuck)
 .ret),
 [.tmp 4]⟩
def xAo : Nat → Option AFunc
 | 3 => some a3
 | 4 => some a4
 | 5 => some a5
 | 12 => some a12
 | 13 => some a13
 | 14 => some a14
 | 15 => some a15
 | 16 => some a16
 | 17 => some a17
 | 18 => some a18
 | 19 => some a19
 | 20 => some a20
 | 21 => some a21
 | 22 => some a22
 | 23 => some a23
 | 24 => some a24
 | 25 => some a25
 | 26 => some a26
 | 27 => some a27
 | 28 => some a28
 | 29 => some a29
 | 30 => some a30
 | 31 => some a31
 | 32 => some a32
 | 33 => some a33
 | 36 => some a36
 | 41 => some a41
 | 42 => some a42
 | 44 => some a44
 | 45 => some a45
 | 46 => some a46
 | 47 => some a47
 | 48 => some a48
 | 49 => some a49
 | 50 => some a50
 | 51 => some a51
 | 52 => some a52
 | 53 => some a53
 | 54 => some a54
 | 55 => some a55
 | 56 => some a56
 | 57 => some a57
 | 58 => some a58
 | 59 => some a59
 | 60 => some a60
 | 61 => some a61
 | 62 => some a62
 | 63 => some a63
 | 64 => some a64
 | 65 => some a65
 | 66 => some a66
 | 67 => some a67
 | 68 => some a68
 | 69 => some a69
 | 70 => some a70
 | 72 => some a72
 | 73 => some a73
 | 75 => some a75
 | 78 => some a78
 | 79 => some a79
 | 81 => some a81
 | 82 => some a82
 | 83 => some a83
 | 84 => some a84
 | 85 => some a85
 | 86 => some a86
 | 87 => some a87
 | 88 => some a88
 | 89 => some a89
 | 90 => some a90
 | 91 => some a91
 | 92 => some a92
 | 93 => some a93
 | 95 => some a95
 | 96 => some a96
 | 101 => some xSl
 | 102 => some yHx
 | 103 => some yHy
 | 104 => some yFO
 | 105 => some yFP
 | 106 => some yGb
 | 111 => some yHz
 | 112 => some yHA
 | 113 => some yHB
 | 114 => some yHC
 | 115 => some yHD
 | 116 => some yHE
 | 117 => some yHF
 | 118 => some yHG
 | 119 => some yHH
 | 120 => some yHI
 | 121 => some yHJ
 | 122 => some yHK
 | 123 => some yHL
 | 124 => some yHM
 | 125 => some yHN
 | 127 => some yHO
 | _ => none
theorem a3p (args : List AV) : (lim xAo).pcall 3 args = xBK (lim xAo) a3 args := xAi rfl args
theorem a4p (args : List AV) : (lim xAo).pcall 4 args = xBK (lim xAo) a4 args := xAi rfl args
theorem a5p (args : List AV) : (lim xAo).pcall 5 args = xBK (lim xAo) a5 args := xAi rfl args
theorem yHP (args : List AV) : (lim xAo).pcall 12 args = xBK (lim xAo) a12 args := xAi rfl args
theorem yHQ (args : List AV) : (lim xAo).pcall 13 args = xBK (lim xAo) a13 args := xAi rfl args
theorem yHR (args : List AV) : (lim xAo).pcall 14 args = xBK (lim xAo) a14 args := xAi rfl args
theorem yHS (args : List AV) : (lim xAo).pcall 15 args = xBK (lim xAo) a15 args := xAi rfl args
theorem yGc (caps args : List AV) (H : Heap) : (lim xAo).icall (.func 16 caps) args H = xGp (lim xAo) a16 (args ++ caps) H := xAB rfl caps args H
theorem yGd (args : List AV) : (lim xAo).pcall 17 args = xBK (lim xAo) a17 args := xAi rfl args
theorem yGN (args : List AV) : (lim xAo).pcall 18 args = xBK (lim xAo) a18 args := xAi rfl args
theorem yFQ (args : List AV) : (lim xAo).pcall 19 args = xBK (lim xAo) a19 args := xAi rfl args
theorem yGe (caps args : List AV) (H : Heap) : (lim xAo).icall (.func 20 caps) args H = xGp (lim xAo) a20 (args ++ caps) H := xAB rfl caps args H
theorem yGO (args : List AV) : (lim xAo).pcall 21 args = xBK (lim xAo) a21 args := xAi rfl args
theorem yGP (caps args : List AV) (H : Heap) : (lim xAo).icall (.func 22 caps) args H = xGp (lim xAo) a22 (args ++ caps) H := xAB rfl caps args H
theorem yGQ (args : List AV) : (lim xAo).pcall 23 args = xBK (lim xAo) a23 args := xAi rfl args
theorem yHT (args : List AV) : (lim xAo).pcall 24 args = xBK (lim xAo) a24 args := xAi rfl args
theorem yHU (args : List AV) : (lim xAo).pcall 25 args = xBK (lim xAo) a25 args := xAi rfl args
theorem yHV (args : List AV) : (lim xAo).pcall 26 args = xBK (lim xAo) a26 args := xAi rfl args
theorem yGR (caps args : List AV) (H : Heap) : (lim xAo).icall (.func 27 caps) args H = xGp (lim xAo) a27 (args ++ caps) H := xAB rfl caps args H
theorem yGf (caps args : List AV) (H : Heap) : (lim xAo).icall (.func 28 caps) args H = xGp (lim xAo) a28 (args ++ caps) H := xAB rfl caps args H
theorem yEj (caps args : List AV) (H : Heap) : (lim xAo).icall (.func 30 caps) args H = xGp (lim xAo) a30 (args ++ caps) H := xAB rfl caps args H
theorem yEk (args : List AV) : (lim xAo).pcall 31 args = xBK (lim xAo) a31 args := xAi rfl args
theorem yHW (args : List AV) : (lim xAo).pcall 32 args = xBK (lim xAo) a32 args := xAi rfl args
theorem yHX (args : List AV) : (lim xAo).pcall 33 args = xBK (lim xAo) a33 args := xAi rfl args
theorem yHY (caps args : List AV) (H : Heap) : (lim xAo).icall (.func 33 caps) args H = xGp (lim xAo) a33 (args ++ caps) H := xAB rfl caps args H
theorem yHZ (args : List AV) : (lim xAo).pcall 41 args = xBK (lim xAo) a41 args := xAi rfl args
theorem yH0 (args : List AV) : (lim xAo).pcall 44 args = xBK (lim xAo) a44 args := xAi rfl args
theorem yH1 (args : List AV) : (lim xAo).pcall 45 args = xBK (lim xAo) a45 args := xAi rfl args
theorem yH2 (args : List AV) : (lim xAo).pcall 46 args = xBK (lim xAo) a46 args := xAi rfl args
theorem yGS (args : List AV) : (lim xAo).pcall 47 args = xBK (lim xAo) a47 args := xAi rfl args
theorem yGT (caps args : List AV) (H : Heap) : (lim xAo).icall (.func 48 caps) args H = xGp (lim xAo) a48 (args ++ caps) H := xAB rfl caps args H
theorem yGU (args : List AV) : (lim xAo).pcall 49 args = xBK (lim xAo) a49 args := xAi rfl args
theorem yFR (args : List AV) : (lim xAo).pcall 50 args = xBK (lim xAo) a50 args := xAi rfl args
theorem yGV (args : List AV) : (lim xAo).pcall 51 args = xBK (lim xAo) a51 args := xAi rfl args
theorem yGW (args : List AV) : (lim xAo).pcall 52 args = xBK (lim xAo) a52 args := xAi rfl args
theorem yH3 (args : List AV) : (lim xAo).pcall 53 args = xBK (lim xAo) a53 args := xAi rfl args
theorem yH4 (args : List AV) : (lim xAo).pcall 54 args = xBK (lim xAo) a54 args := xAi rfl args
theorem yH5 (args : List AV) : (lim xAo).pcall 55 args = xBK (lim xAo) a55 args := xAi rfl args
theorem yH6 (args : List AV) : (lim xAo).pcall 56 args = xBK (lim xAo) a56 args := xAi rfl args
theorem yH7 (args : List AV) : (lim xAo).pcall 57 args = xBK (lim xAo) a57 args := xAi rfl args
theorem yH8 (args : List AV) : (lim xAo).pcall 58 args = xBK (lim xAo) a58 args := xAi rfl args
theorem yAv (caps args : List AV) (H : Heap) : (lim xAo).icall (.func 58 caps) args H = xGp (lim xAo) a58 (args ++ caps) H := xAB rfl caps args H
theorem yH9 (args : List AV) : (lim xAo).pcall 59 args = xBK (lim xAo) a59 args := xAi rfl args
theorem yIa (args : List AV) : (lim xAo).pcall 60 args = xBK (lim xAo) a60 args := xAi rfl args
theorem yIb (args : List AV) : (lim xAo).pcall 61 args = xBK (lim xAo) a61 args := xAi rfl args
theorem yFS (caps args : List AV) (H : Heap) : (lim xAo).icall (.func 62 caps) args H = xGp (lim xAo) a62 (args ++ caps) H := xAB rfl caps args H
theorem yFT (caps args : List AV) (H : Heap) : (lim xAo).icall (.func 63 caps) args H = xGp (lim xAo) a63 (args ++ caps) H := xAB rfl caps args H
theorem yGX (caps args : List AV) (H : Heap) : (lim xAo).icall (.func 67 caps) args H = xGp (lim xAo) a67 (args ++ caps) H := xAB rfl caps args H
theorem yGY (caps args : List AV) (H : Heap) : (lim xAo).icall (.func 68 caps) args H = xGp (lim xAo) a68 (args ++ caps) H := xAB rfl caps args H
theorem yIc (args : List AV) : (lim xAo).pcall 69 args = xBK (lim xAo) a69 args := xAi rfl args
theorem yId (caps args : List AV) (H : Heap) : (lim xAo).icall (.func 69 caps) args H = xGp (lim xAo) a69 (args ++ caps) H := xAB rfl caps args H
theorem yIe (args : List AV) : (lim xAo).pcall 70 args = xBK (lim xAo) a70 args := xAi rfl args
theorem yIf (caps args : List AV) (H : Heap) : (lim xAo).icall (.func 70 caps) args H = xGp (lim xAo) a70 (args ++ caps) H := xAB rfl caps args H
theorem yGZ (caps args : List AV) (H : Heap) : (lim xAo).icall (.func 73 caps) args H = xGp (lim xAo) a73 (args ++ caps) H := xAB rfl caps args H
theorem yDe (args : List AV) : (lim xAo).pcall 75 args = xBK (lim xAo) a75 args := xAi rfl args
theorem yFU (args : List AV) : (lim xAo).pcall 81 args = xBK (lim xAo) a81 args := xAi rfl args
theorem yG0 (caps args : List AV) (H : Heap) : (lim xAo).icall (.func 82 caps) args H = xGp (lim xAo) a82 (args ++ caps) H := xAB rfl caps args H
theorem yIg (args : List AV) : (lim xAo).pcall 83 args = xBK (lim xAo) a83 args := xAi rfl args
theorem yEP (args : List AV) : (lim xAo).pcall 84 args = xBK (lim xAo) a84 args := xAi rfl args
theorem yIh (caps args : List AV) (H : Heap) : (lim xAo).icall (.func 85 caps) args H = xGp (lim xAo) a85 (args ++ caps) H := xAB rfl caps args H
theorem yG1 (caps args : List AV) (H : Heap) : (lim xAo).icall (.func 86 caps) args H = xGp (lim xAo) a86 (args ++ caps) H := xAB rfl caps args H
theorem yIi (caps args : List AV) (H : Heap) : (lim xAo).icall (.func 87 caps) args H = xGp (lim xAo) a87 (args ++ caps) H := xAB rfl caps args H
theorem yIj (caps args : List AV) (H : Heap) : (lim xAo).icall (.func 88 caps) args H = xGp (lim xAo) a88 (args ++ caps) H := xAB rfl caps args H
theorem yG2 (caps args : List AV) (H : Heap) : (lim xAo).icall (.func 89 caps) args H = xGp (lim xAo) a89 (args ++ caps) H := xAB rfl caps args H
theorem yG3 (caps args : List AV) (H : Heap) : (lim xAo).icall (.func 91 caps) args H = xGp (lim xAo) a91 (args ++ caps) H := xAB rfl caps args H
theorem yG4 (caps args : List AV) (H : Heap) : (lim xAo).icall (.func 92 caps) args H = xGp (lim xAo) a92 (args ++ caps) H := xAB rfl caps args H
theorem yG5 (caps args : List AV) (H : Heap) : (lim xAo).icall (.func 93 caps) args H = xGp (lim xAo) a93 (args ++ caps) H := xAB rfl caps args H
theorem yG6 (caps args : List AV) (H : Heap) : (lim xAo).icall (.func 95 caps) args H = xGp (lim xAo) a95 (args ++ caps) H := xAB rfl caps args H
theorem yG7 (args : List AV) : (lim xAo).pcall 96 args = xBK (lim xAo) a96 args := xAi rfl args
theorem xLU (args : List AV) : (lim xAo).pcall 101 args = xBK (lim xAo) xSl args := xAi rfl args
theorem yEQ (caps args : List AV) (H : Heap) : (lim xAo).icall (.func 104 caps) args H = xGp (lim xAo) yFO (args ++ caps) H := xAB rfl caps args H
theorem yER (caps args : List AV) (H : Heap) : (lim xAo).icall (.func 105 caps) args H = xGp (lim xAo) yFP (args ++ caps) H := xAB rfl caps args H
theorem yGg (caps args : List AV) (H : Heap) : (lim xAo).icall (.func 106 caps) args H = xGp (lim xAo) yGb (args ++ caps) H := xAB rfl caps args H
end Go.Abs.Tree
