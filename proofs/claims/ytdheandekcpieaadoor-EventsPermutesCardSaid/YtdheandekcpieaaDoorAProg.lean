/- The functions in the interpreter's words. -/
import Derived.Test.YtdheandekcpieaaDoorAbsEnc
import Derived.Test.YtdheandekcpieaaDoorProg
namespace Go.Abs.Events
open Go Go.Abs
abbrev oO (n : Nat) (x : AOp) : AOper := ⟨some n,x,none⟩
abbrev oT (n m : Nat) : AOper := ⟨some n,.mov (.t m),none⟩
abbrev oG (n k m : Nat) : AOper := ⟨some n,.load true k (.t m),none⟩
abbrev oH (n k m : Nat) : AOper := ⟨some n,.load false k (.t m),none⟩
abbrev oF (n k m : Nat) : AOper := ⟨some n,.faddr k (.t m),none⟩
abbrev oN (n m : Nat) : AOper := ⟨some n,.len (.t m),none⟩
abbrev oM (n : Nat) (x : Arg) : AOper := ⟨some n,.mov x,none⟩
abbrev oX (n : Nat) (x : Arg) : AOper := ⟨some n,.box x,none⟩
abbrev oB (n : Nat) (o : BinOp) (a b : Nat) : AOper := ⟨some n,.bin o (.t a) (.t b),none⟩
abbrev oA (n : Nat) (o : BinOp) (a : Nat) (x : Arg) : AOper := ⟨some n,.bin o (.t a) x,none⟩
abbrev oI (n : Int) : AV := .int .i64 n
abbrev oS : AV := .sl true 0 []
abbrev oR (l : List AOper) (c : ACode) : ACode := .seq (.region l) c
abbrev oE : AV := .any
def xUS : ACode :=
 .seq (oR ([oT 50 15,
 oT 51 13,
 oN 52 51,
 oB 53 .lss 50 52])
 (.cond (.t 53)
 .skip
 (.exit 0)))
 (.seq (.block 1 (.region [oT 56 13,
 oT 57 15,
 oO 58 (.iaddr 6 (.t 56) (.t 57)),
 oF 59 2 58,
 oH 60 1 59,
 oT 61 11,
 oT 62 12,
 oO 63 (.icall (.c (.func 37 [])) [.t 60,.t 61,.t 62])]))
 (.region [oT 54 15,
 oA 55 .add 54 (.c (oI 1)),
 oT 15 55]))
def xYH : ACode := xUS
def xNe : List Nat := [0,1,2,3,4,5,6,7,9,10,16,17,18,19,20,21,22,23,24,25,26,27,28,29,30,31,32,33,34,35,36,37,38,39,40,41,42,43,44,45,46,47,48,49,50,51,52,53,54,55,56,57,58,59,60,61,62,63,64,65,66,67,68,69,70,71,72,73,74,75,76,77,78,79,80,81,82,83,84,85,86,87,88,89,90,91,92,93]
abbrev xQa (s8 s11 s12 s13 s14 s15 : AV) : List AV := [oE,oE,oE,oE,oE,oE,oE,oE,s8,oE,oE,s11,s12,s13,s14,s15,oE,oE,oE,oE,oE,oE,oE,oE,oE,oE,oE,oE,oE,oE,oE,oE,oE,oE,oE,oE,oE,oE,oE,oE,oE,oE,oE,oE,oE,oE,oE,oE,oE,oE,oE,oE,oE,oE,oE,oE,oE,oE,oE,oE,oE,oE,oE,oE,oE,oE,oE,oE,oE,oE,oE,oE,oE,oE,oE,oE,oE,oE,oE,oE,oE,oE,oE,oE,oE,oE,oE,oE,oE,oE,oE,oE,oE,oE]
theorem xUT (a b c d e f g h i j k l m n o p q r s t u v w x y z A B C D E F G H I J K L M N O P Q R S T U V W X Y Z a0 a1 a2 a3 a4 a5 a6 a7 a8 a9 b0 b1 b2 b3 b4 b5 b6 b7 b8 b9 c0 c1 c2 c3 c4 c5 c6 c7 c8 c9 d0 d1 d2 d3 d4 d5 d6 d7 d8 d9 e0 e1 : AV) : xAu xNe [a,b,c,d,e,f,g,h,i,j,k,l,m,n,o,p,q,r,s,t,u,v,w,x,y,z,A,B,C,D,E,F,G,H,I,J,K,L,M,N,O,P,Q,R,S,T,U,V,W,X,Y,Z,a0,a1,a2,a3,a4,a5,a6,a7,a8,a9,b0,b1,b2,b3,b4,b5,b6,b7,b8,b9,c0,c1,c2,c3,c4,c5,c6,c7,c8,c9,d0,d1,d2,d3,d4,d5,d6,d7,d8,d9,e0,e1] = xQa i l m n o p := by kernel_rfl
theorem xZq {prog : Nat → Option AFunc} (s8 s11 s12 s13 s14 s15 : AV) (H : Heap) : (lim prog).loop xNe xYH ⟨xQa s8 s11 s12 s13 s14 s15,H⟩ = xA9 (lim prog) xNe xYH (run (lim prog) xUS ⟨xQa s8 s11 s12 s13 s14 s15,H⟩) := xAh _ _ _ _ (by kernel_rfl)
def xSv : ACode :=
 .seq (oR ([oT 64 16,
 oT 65 14,
 oN 66 65,
 oB 67 .lss 64 66])
 (.cond (.t 67)
 .skip
 (.exit 2)))
 (.seq (.block 3 (.region [oT 70 14,
 oT 71 16,
 oO 72 (.iaddr 2 (.t 70) (.t 71)),
 oF 73 1 72,
 oH 74 1 73,
 oT 75 11,
 oT 76 12,
 oO 77 (.icall (.c (.func 37 [])) [.t 74,.t 75,.t 76])]))
 (.region [oT 68 16,
 oA 69 .add 68 (.c (oI 1)),
 oT 16 69]))
def xZr : ACode := xSv
def xQb : List Nat := [0,1,2,3,4,5,6,7,9,10,15,17,18,19,20,21,22,23,24,25,26,27,28,29,30,31,32,33,34,35,36,37,38,39,40,41,42,43,44,45,46,47,48,49,50,51,52,53,54,55,56,57,58,59,60,61,62,63,64,65,66,67,68,69,70,71,72,73,74,75,76,77,78,79,80,81,82,83,84,85,86,87,88,89,90,91,92,93]
abbrev xSw (s8 s11 s12 s13 s14 s16 : AV) : List AV := [oE,oE,oE,oE,oE,oE,oE,oE,s8,oE,oE,s11,s12,s13,s14,oE,s16,oE,oE,oE,oE,oE,oE,oE,oE,oE,oE,oE,oE,oE,oE,oE,oE,oE,oE,oE,oE,oE,oE,oE,oE,oE,oE,oE,oE,oE,oE,oE,oE,oE,oE,oE,oE,oE,oE,oE,oE,oE,oE,oE,oE,oE,oE,oE,oE,oE,oE,oE,oE,oE,oE,oE,oE,oE,oE,oE,oE,oE,oE,oE,oE,oE,oE,oE,oE,oE,oE,oE,oE,oE,oE,oE,oE,oE]
theorem xUU (a b c d e f g h i j k l m n o p q r s t u v w x y z A B C D E F G H I J K L M N O P Q R S T U V W X Y Z a0 a1 a2 a3 a4 a5 a6 a7 a8 a9 b0 b1 b2 b3 b4 b5 b6 b7 b8 b9 c0 c1 c2 c3 c4 c5 c6 c7 c8 c9 d0 d1 d2 d3 d4 d5 d6 d7 d8 d9 e0 e1 : AV) : xAu xQb [a,b,c,d,e,f,g,h,i,j,k,l,m,n,o,p,q,r,s,t,u,v,w,x,y,z,A,B,C,D,E,F,G,H,I,J,K,L,M,N,O,P,Q,R,S,T,U,V,W,X,Y,Z,a0,a1,a2,a3,a4,a5,a6,a7,a8,a9,b0,b1,b2,b3,b4,b5,b6,b7,b8,b9,c0,c1,c2,c3,c4,c5,c6,c7,c8,c9,d0,d1,d2,d3,d4,d5,d6,d7,d8,d9,e0,e1] = xSw i l m n o q := by kernel_rfl
theorem xXr {prog : Nat → Option AFunc} (s8 s11 s12 s13 s14 s16 : AV) (H : Heap) : (lim prog).loop xQb xZr ⟨xSw s8 s11 s12 s13 s14 s16,H⟩ = xA9 (lim prog) xQb xZr (run (lim prog) xSv ⟨xSw s8 s11 s12 s13 s14 s16,H⟩) := xAh _ _ _ _ (by kernel_rfl)
def a9 : AFunc := ⟨94,
 oR ([oX 5 (.t 2),
 oM 6 (.c (.bool false))])
 (oR ([oT 19 0,
 oO 20 (.call 18 [.t 19]),
 oT 7 20])
 (oR ([oT 21 7,
 oT 22 7,
 oN 23 22,
 oO 24 (.mini (.t 23) (.c (oI 40))),
 oO 25 (.slice 6 (.t 21) none (some (.t 24)) none),
 oT 7 25])
 (oR ([oT 27 7,
 oT 28 1,
 oO 29 (.call 33 [.t 27,.t 28,(.c (oI 12))]),
 oT 26 29,
 oO 30 (.ext 0 (.t 26)),
 oO 31 (.ext 1 (.t 26)),
 oO 32 (.ext 2 (.t 26)),
 oT 8 30,
 oT 9 31,
 oT 10 32])
 (.seq (oR ([oT 33 10,
 oO 34 (.un .not (.t 33))])
 (.cond (.t 34)
 (oR ([oO 35 (.call 17 []),
 oT 6 35])
 .ret)
 .skip))
 (.seq (.draw 10 [oO 36 (.arrat 1 2 (.t 5) (.c (oI 0))),
 oH 37 1 36,
 oA 38 .rem 37 (.c (oI 8)),
 oA 39 .add 38 (.c (oI 8)),
 oA 40 .rem 39 (.c (oI 8)),
 oO 41 (.arrat 1 2 (.t 5) (.c (oI 1))),
 oH 42 1 41,
 oA 43 .rem 42 (.c (oI 8)),
 oA 44 .add 43 (.c (oI 8)),
 oA 45 .rem 44 (.c (oI 8)),
 oT 11 40,
 oT 12 45])
 (oR ([oT 46 7,
 oO 47 (.ocallw 18 [.t 46]),
 oT 48 9,
 oO 49 (.ocallw 21 [.t 48,(.c (oI 12))]),
 oT 13 47,
 oT 14 49])
 (.seq (oR ([oM 15 (.c (oI 0))])
 (.block 0 (.loop xNe xYH)))
 (.seq (oR ([oM 16 (.c (oI 0))])
 (.block 2 (.loop xQb xZr)))
 (oR ([oT 79 13,
 oT 80 14,
 oO 81 (.call 35 [.t 79,.t 80]),
 oT 78 81,
 oO 82 (.ext 0 (.t 78)),
 oO 83 (.ext 1 (.t 78)),
 oT 17 82,
 oT 18 83])
 (oR ([oT 84 18,
 oA 85 .eql 84 (.c (oI 0)),
 oT 86 85,
 ⟨some 87,.mov (.t 8),some (86,true)⟩,
 ⟨some 88,.mov (.t 17),some (86,true)⟩,
 ⟨some 89,.call 36 [.t 87,.t 88],some (86,true)⟩,
 oO 90 (.pick (.t 86) (.t 89) (.c (.bool false))),
 oT 91 90,
 ⟨some 92,.call 17 [],some (91,true)⟩,
 oO 93 (.pick (.t 91) (.t 92) (.c (.bool false))),
 oT 6 93])
 .ret)))))))))),
 [.tmp 6]⟩
def xOR : ACode :=
 .seq (oR ([oT 100 7,
 oA 101 .lss 100 (.c (oI 33))])
 (.cond (.t 101)
 .skip
 (.exit 0)))
 (.seq (.block 1 (oR ([oT 104 6,
 oT 105 7,
 oO 106 (.iaddr 1 (.t 104) (.t 105)),
 oH 107 1 106,
 oA 108 .neq 107 (.c (.int .u8 255))])
 (.cond (.t 108)
 (oR ([oM 0 (.c (.bool false))])
 .ret)
 .skip)))
 (.region [oT 102 7,
 oA 103 .add 102 (.c (oI 1)),
 oT 7 103]))
def xSx : ACode := xOR
def xIZ : List Nat := [3,4,5,8,9,10,11,12,13,14,15,16,17,18,19,20,21,22,23,24,25,26,27,28,29,30,31,32,33,34,35,36,37,38,39,40,41,42,43,44,45,46,47,48,49,50,51,52,53,54,55,56,57,58,59,60,61,62,63,64,65,66,67,68,69,70,71,72,73,74,75,76,77,78,79,80,81,82,83,84,85,86,87,88,89,90,91,92,93,94,95,96,97,98,99,100,101,102,103,104,105,106,107,108,109,110,111,112,113,114,115,116,117,118,119,120,121,122,123,124,125,126,127,128,129,130,131,132,133,134,135,136,137,138,139,140,141,142,143,144,145,146,147,148,149,150,151,152,153,154,155,156,157,158,159,160,161,162,163,164,165,166]
abbrev xI0 (s0 s1 s2 s6 s7 : AV) : List AV := [s0,s1,s2,oE,oE,oE,s6,s7,oE,oE,oE,oE,oE,oE,oE,oE,oE,oE,oE,oE,oE,oE,oE,oE,oE,oE,oE,oE,oE,oE,oE,oE,oE,oE,oE,oE,oE,oE,oE,oE,oE,oE,oE,oE,oE,oE,oE,oE,oE,oE,oE,oE,oE,oE,oE,oE,oE,oE,oE,oE,oE,oE,oE,oE,oE,oE,oE,oE,oE,oE,oE,oE,oE,oE,oE,oE,oE,oE,oE,oE,oE,oE,oE,oE,oE,oE,oE,oE,oE,oE,oE,oE,oE,oE,oE,oE,oE,oE,oE,oE,oE,oE,oE,oE,oE,oE,oE,oE,oE,oE,oE,oE,oE,oE,oE,oE,oE,oE,oE,oE,oE,oE,oE,oE,oE,oE,oE,oE,oE,oE,oE,oE,oE,oE,oE,oE,oE,oE,oE,oE,oE,oE,oE,oE,oE,oE,oE,oE,oE,oE,oE,oE,oE,oE,oE,oE,oE,oE,oE,oE,oE,oE,oE,oE,oE,oE,oE]
theorem xSy (a b c d e f g h i j k l m n o p q r s t u v w x y z A B C D E F G H I J K L M N O P Q R S T U V W X Y Z a0 a1 a2 a3 a4 a5 a6 a7 a8 a9 b0 b1 b2 b3 b4 b5 b6 b7 b8 b9 c0 c1 c2 c3 c4 c5 c6 c7 c8 c9 d0 d1 d2 d3 d4 d5 d6 d7 d8 d9 e0 e1 e2 e3 e4 e5 e6 e7 e8 e9 f0 f1 f2 f3 f4 f5 f6 f7 f8 f9 g0 g1 g2 g3 g4 g5 g6 g7 g8 g9 h0 h1 h2 h3 h4 h5 h6 h7 h8 h9 i0 i1 i2 i3 i4 i5 i6 i7 i8 i9 j0 j1 j2 j3 j4 j5 j6 j7 j8 j9 k0 k1 k2 k3 k4 k5 k6 k7 k8 k9 l0 l1 l2 l3 l4 : AV) : xAu xIZ [a,b,c,d,e,f,g,h,i,j,k,l,m,n,o,p,q,r,s,t,u,v,w,x,y,z,A,B,C,D,E,F,G,H,I,J,K,L,M,N,O,P,Q,R,S,T,U,V,W,X,Y,Z,a0,a1,a2,a3,a4,a5,a6,a7,a8,a9,b0,b1,b2,b3,b4,b5,b6,b7,b8,b9,c0,c1,c2,c3,c4,c5,c6,c7,c8,c9,d0,d1,d2,d3,d4,d5,d6,d7,d8,d9,e0,e1,e2,e3,e4,e5,e6,e7,e8,e9,f0,f1,f2,f3,f4,f5,f6,f7,f8,f9,g0,g1,g2,g3,g4,g5,g6,g7,g8,g9,h0,h1,h2,h3,h4,h5,h6,h7,h8,h9,i0,i1,i2,i3,i4,i5,i6,i7,i8,i9,j0,j1,j2,j3,j4,j5,j6,j7,j8,j9,k0,k1,k2,k3,k4,k5,k6,k7,k8,k9,l0,l1,l2,l3,l4] = xI0 a b c g h := by kernel_rfl
theorem xV3 {prog : Nat → Option AFunc} (s0 s1 s2 s6 s7 : AV) (H : Heap) : (lim prog).loop xIZ xSx ⟨xI0 s0 s1 s2 s6 s7,H⟩ = xA9 (lim prog) xIZ xSx (run (lim prog) xOR ⟨xI0 s0 s1 s2 s6 s7,H⟩) := xAh _ _ _ _ (by kernel_rfl)
def a17 : AFunc := ⟨167,
 oR ([oM 0 (.c (.bool false))])
 (oR ([⟨some 1,.mov (.c (.str ⟨#[40,101,120,105,115,116,115,32,120,32,40,97,110,100,32,40,97,116,32,98,32,120,41,32,40,110,111,116,32,40,111,110,99,101,32,40,97,116,32,97,32,120,41,41,41,41,41]⟩)),none⟩])
 (.seq (oR ([oT 15 1,
 oO 16 (.bslice true [oI 0] 1 1 [(0,(.c (oI 3)))]),
 oO 17 (.call 47 [(.c (oI 0)),.t 16]),
 oO 18 (.bslice true [oI 0] 1 1 [(0,(.c (oI 3)))]),
 oO 19 (.call 47 [(.c (oI 1)),.t 18]),
 oO 20 (.bslice true [oI 0] 1 1 [(0,(.c (oI 4)))]),
 oO 21 (.call 47 [(.c (oI 1)),.t 20]),
 oO 22 (.bslice true [oI 0] 1 1 [(0,(.c (oI 4)))]),
 oO 23 (.call 47 [(.c (oI 0)),.t 22]),
 oO 24 (.bslice true [oI 0] 1 1 [(0,(.c (oI 4)))]),
 oO 25 (.call 47 [(.c (oI 1)),.t 24]),
 oO 26 (.bslice true [oI 0,oS] 2 5 [(0,.t 17),(1,.t 19),(2,.t 21),(3,.t 23),(4,.t 25)]),
 oO 27 (.bslice true [.bool false] 1 5 [(0,(.c (.bool false))),(1,(.c (.bool false))),(2,(.c (.bool true))),(3,(.c (.bool false))),(4,(.c (.bool false)))]),
 oO 28 (.call 46 [.t 15,.t 26,.t 27]),
 oO 29 (.un .not (.t 28)),
 oT 30 29,
 ⟨some 31,.bslice true [oI 0] 1 1 [(0,(.c (oI 1)))],some (30,false)⟩,
 ⟨some 32,.call 47 [(.c (oI 0)),.t 31],some (30,false)⟩,
 ⟨some 33,.call 47 [(.c (oI 1)),(.c (oS))],some (30,false)⟩,
 ⟨some 34,.call 47 [(.c (oI 2)),(.c (oS))],some (30,false)⟩,
 ⟨some 35,.bslice true [oI 0] 1 1 [(0,(.c (oI 2)))],some (30,false)⟩,
 ⟨some 36,.call 47 [(.c (oI 0)),.t 35],some (30,false)⟩,
 ⟨some 37,.bslice true [oI 0,oS] 2 4 [(0,.t 32),(1,.t 33),(2,.t 34),(3,.t 36)],some (30,false)⟩,
 ⟨some 38,.bslice true [.bool false] 1 4 [(0,(.c (.bool true))),(1,(.c (.bool true))),(2,(.c (.bool false))),(3,(.c (.bool false)))],some (30,false)⟩,
 ⟨some 39,.call 46 [(.c (.str ⟨#[40,115,105,110,99,101,32,40,110,111,116,32,40,97,116,32,99,41,41,32,40,97,116,32,97,32,49,41,41]⟩)),.t 37,.t 38],some (30,false)⟩,
 ⟨some 40,.un .not (.t 39),some (30,false)⟩,
 oO 41 (.pick (.t 30) (.c (.bool true)) (.t 40)),
 oT 42 41,
 ⟨some 43,.bslice true [oI 0] 1 2 [(0,(.c (oI 2))),(1,(.c (oI 2)))],some (42,false)⟩,
 ⟨some 44,.call 47 [(.c (oI 0)),.t 43],some (42,false)⟩,
 ⟨some 45,.bslice true [oI 0] 1 2 [(0,(.c (oI 1))),(1,(.c (oI 2)))],some (42,false)⟩,
 ⟨some 46,.call 47 [(.c (oI 0)),.t 45],some (42,false)⟩,
 ⟨some 47,.call 47 [(.c (oI 1)),(.c (oS))],some (42,false)⟩,
 ⟨some 48,.bslice true [oI 0,oS] 2 3 [(0,.t 44),(1,.t 46),(2,.t 47)],some (42,false)⟩,
 ⟨some 49,.bslice true [.bool false] 1 3 [(0,(.c (.bool false))),(1,(.c (.bool true))),(2,(.c (.bool false)))],some (42,false)⟩,
 ⟨some 50,.call 46 [(.c (.str ⟨#[40,112,114,101,118,105,111,117,115,32,40,101,120,105,115,116,115,32,121,32,40,97,116,32,97,32,121,32,121,41,41,41]⟩)),.t 48,.t 49],some (42,false)⟩,
 ⟨some 51,.un .not (.t 50),some (42,false)⟩,
 oO 52 (.pick (.t 42) (.c (.bool true)) (.t 51))])
 (.cond (.t 52)
 (oR ([oM 0 (.c (.bool false))])
 .ret)
 .skip))
 (oR ([oT 54 1,
 oO 55 (.call 39 [.t 54]),
 oO 56 (.icall (.c (.func 19 [])) [.t 55]),
 oT 53 56,
 oO 57 (.ext 0 (.t 53)),
 oO 58 (.ext 1 (.t 53)),
 oT 2 57,
 oT 3 58])
 (oR ([oT 60 2,
 oO 61 (.bslice true [oI 0] 1 1 [(0,(.c (oI 3)))]),
 oO 62 (.call 47 [(.c (oI 0)),.t 61]),
 oO 63 (.icall (.c (.func 22 [])) [.t 60,.t 62]),
 oT 59 63,
 oO 64 (.ext 0 (.t 59)),
 oO 65 (.ext 1 (.t 59)),
 oT 4 64,
 oT 5 65])
 (oR ([oT 66 2,
 oO 67 (.icall (.c (.func 24 [])) [.t 66]),
 oT 6 67])
 (.seq (oR ([oT 68 3,
 oA 69 .neq 68 (.c (oI 0)),
 oT 70 69,
 ⟨some 71,.mov (.t 4),some (70,false)⟩,
 oO 72 (.pick (.t 70) (.c (.bool true)) (.t 71)),
 oT 73 72,
 ⟨some 74,.mov (.t 5),some (73,false)⟩,
 ⟨some 75,.bin .neq (.t 74) (.c (oI 0)),some (73,false)⟩,
 oO 76 (.pick (.t 73) (.c (.bool true)) (.t 75)),
 oT 77 76,
 ⟨some 78,.mov (.t 6),some (77,false)⟩,
 ⟨some 79,.len (.t 78),some (77,false)⟩,
 ⟨some 80,.bin .neq (.t 79) (.c (oI 65)),some (77,false)⟩,
 oO 81 (.pick (.t 77) (.c (.bool true)) (.t 80)),
 oT 82 81,
 ⟨some 83,.mov (.t 6),some (82,false)⟩,
 ⟨some 84,.iaddr 1 (.t 83) (.c (oI 0)),some (82,false)⟩,
 ⟨some 85,.load false 1 (.t 84),some (82,false)⟩,
 ⟨some 86,.bin .neq (.t 85) (.c (.int .u8 1)),some (82,false)⟩,
 oO 87 (.pick (.t 82) (.c (.bool true)) (.t 86)),
 oT 88 87,
 ⟨some 89,.mov (.t 6),some (88,false)⟩,
 ⟨some 90,.iaddr 1 (.t 89) (.c (oI 24)),some (88,false)⟩,
 ⟨some 91,.load false 1 (.t 90),some (88,false)⟩,
 ⟨some 92,.bin .neq (.t 91) (.c (.int .u8 0)),some (88,false)⟩,
 oO 93 (.pick (.t 88) (.c (.bool true)) (.t 92)),
 oT 94 93,
 ⟨some 95,.mov (.t 6),some (94,false)⟩,
 ⟨some 96,.iaddr 1 (.t 95) (.c (oI 33)),some (94,false)⟩,
 ⟨some 97,.load false 1 (.t 96),some (94,false)⟩,
 ⟨some 98,.bin .neq (.t 97) (.c (.int .u8 0)),some (94,false)⟩,
 oO 99 (.pick (.t 94) (.c (.bool true)) (.t 98))])
 (.cond (.t 99)
 (oR ([oM 0 (.c (.bool false))])
 .ret)
 .skip))
 (.seq (oR ([oM 7 (.c (oI 25))])
 (.block 0 (.loop xIZ xSx)))
 (.seq (oR ([oO 109 (.bslice true [oI 0] 1 1 [(0,(.c (oI 8)))]),
 oO 110 (.build [.int .u8 0,oI 0,oS,oI 0,oI 0,oI 0] [(0,1,(.c (.int .u8 2))),(2,1,.t 109)]),
 oO 111 (.bslice true [.int .u8 0,oI 0,oS,oI 0,oI 0,oI 0] 6 1 [(0,.t 110)]),
 oO 112 (.call 34 [.t 111]),
 oA 113 .neq 112 (.c (oI 11)),
 oT 114 113,
 ⟨some 115,.call 48 [(.c (.str ⟨#[40,97,116,32,97,32,120,41]⟩)),(.c (oI 0)),(.c (oI 11))],some (114,false)⟩,
 ⟨some 116,.un .not (.t 115),some (114,false)⟩,
 oO 117 (.pick (.t 114) (.c (.bool true)) (.t 116)),
 oT 118 117,
 ⟨some 119,.call 48 [(.c (.str ⟨#[40,97,116,32,97,32,56,41]⟩)),(.c (oI 6)),(.c (oI 1))],some (118,false)⟩,
 ⟨some 120,.un .not (.t 119),some (118,false)⟩,
 oO 121 (.pick (.t 118) (.c (.bool true)) (.t 120)),
 oT 122 121,
 ⟨some 123,.call 48 [(.c (.str ⟨#[40,61,32,120,41]⟩)),(.c (oI 4)),(.c (oI 2))],some (122,false)⟩,
 ⟨some 124,.un .not (.t 123),some (122,false)⟩,
 oO 125 (.pick (.t 122) (.c (.bool true)) (.t 124)),
 oT 126 125,
 ⟨some 127,.call 48 [(.c (.str ⟨#[40,111,110,99,101,32,116,114,117,101]⟩)),(.c (oI 10)),(.c (oI 3))],some (126,false)⟩,
 ⟨some 128,.un .not (.t 127),some (126,false)⟩,
 oO 129 (.pick (.t 126) (.c (.bool true)) (.t 128))])
 (.cond (.t 129)
 (oR ([oM 0 (.c (.bool false))])
 .ret)
 .skip))
 (.seq (.draw 4 [oT 131 1,
 oO 132 (.call 39 [.t 131]),
 oT 133 6,
 oO 134 (.slice 1 (.t 133) none (some (.c (oI 64))) none),
 oO 135 (.icall (.c (.func 29 [])) [.t 132,.t 134]),
 oT 130 135,
 oO 136 (.ext 0 (.t 130)),
 oO 137 (.ext 1 (.t 130)),
 oT 8 136,
 oT 9 137])
 (oR ([oT 139 2,
 oO 140 (.bslice true [oI 0] 1 1 [(0,(.c (oI 8)))]),
 oO 141 (.call 47 [(.c (oI 0)),.t 140]),
 oO 142 (.icall (.c (.func 22 [])) [.t 139,.t 141]),
 oT 138 142,
 oO 143 (.ext 0 (.t 138)),
 oO 144 (.ext 1 (.t 138)),
 oT 10 143,
 oT 11 144])
 (oR ([oM 12 (.c (.nilp))])
 (oR ([oT 146 12,
 oO 147 (.call 47 [(.c (oI 0)),(.c (oS))]),
 oO 148 (.icall (.c (.func 22 [])) [.t 146,.t 147]),
 oT 145 148,
 oO 149 (.ext 0 (.t 145)),
 oO 150 (.ext 1 (.t 145)),
 oT 13 149,
 oT 14 150])
 (oR ([oT 151 9,
 oA 152 .eql 151 (.c (oI 2)),
 oT 153 152,
 ⟨some 154,.mov (.t 11),some (153,true)⟩,
 ⟨some 155,.bin .eql (.t 154) (.c (oI 1)),some (153,true)⟩,
 oO 156 (.pick (.t 153) (.t 155) (.c (.bool false))),
 oT 157 156,
 ⟨some 158,.mov (.t 14),some (157,true)⟩,
 ⟨some 159,.bin .eql (.t 158) (.c (oI 12)),some (157,true)⟩,
 oO 160 (.pick (.t 157) (.t 159) (.c (.bool false))),
 oT 161 160,
 ⟨some 162,.mov (.t 2),some (161,true)⟩,
 ⟨some 163,.icall (.c (.func 24 [])) [.t 162],some (161,true)⟩,
 ⟨some 164,.mov (.t 6),some (161,true)⟩,
 ⟨some 165,.icall (.c (.func 25 [])) [.t 163,.t 164],some (161,true)⟩,
 oO 166 (.pick (.t 161) (.t 165) (.c (.bool false))),
 oT 0 166])
 .ret))))))))))))),
 [.tmp 0]⟩
def xHw : ACode :=
 .seq (oR ([oT 6 4,
 oT 7 0,
 oN 8 7,
 oB 9 .lss 6 8,
 oT 10 9,
 ⟨some 11,.mov (.t 4),some (10,true)⟩,
 ⟨some 12,.bin .lss (.t 11) (.c (oI 70)),some (10,true)⟩,
 oO 13 (.pick (.t 10) (.t 12) (.c (.bool false)))])
 (.cond (.t 13)
 .skip
 (.exit 0)))
 (.seq (.block 1 (oR ([oT 16 0,
 oT 17 4,
 oO 18 (.iaddr 6 (.t 16) (.t 17)),
 oG 19 6 18,
 oX 5 (.c (.agg [.int .u8 0,oI 0,oS,oI 0,oI 0,oI 0])),
 ⟨none,.store 6 (.t 5) (.t 19),none⟩])
 (oR ([oF 20 2 5,
 oH 21 1 20,
 oF 22 2 5,
 oH 23 1 22,
 oN 24 23,
 oO 25 (.mini (.t 24) (.c (oI 4))),
 oO 26 (.slice 1 (.t 21) none (some (.t 25)) none),
 oO 27 (.ocall 49 [.t 26]),
 oF 28 2 5,
 ⟨none,.store 1 (.t 28) (.t 27),none⟩])
 (.region [oT 29 3,
 oG 30 6 5,
 oO 31 (.bslice false [.int .u8 0,oI 0,oS,oI 0,oI 0,oI 0] 6 1 [(0,.t 30)]),
 oO 32 (.append false 6 64 (.t 29) (.t 31)),
 oT 3 32]))))
 (.region [oT 14 4,
 oA 15 .add 14 (.c (oI 1)),
 oT 4 15]))
def xQc : ACode := xHw
def xHx : List Nat := [1,2,5,6,7,8,9,10,11,12,13,14,15,16,17,18,19,20,21,22,23,24,25,26,27,28,29,30,31,32,33]
abbrev xI1 (s0 s3 s4 : AV) : List AV := [s0,oE,oE,s3,s4,oE,oE,oE,oE,oE,oE,oE,oE,oE,oE,oE,oE,oE,oE,oE,oE,oE,oE,oE,oE,oE,oE,oE,oE,oE,oE,oE,oE,oE]
theorem xE0 (a b c d e f g h i j k l m n o p q r s t u v w x y z A B C D E F G H : AV) : xAu xHx [a,b,c,d,e,f,g,h,i,j,k,l,m,n,o,p,q,r,s,t,u,v,w,x,y,z,A,B,C,D,E,F,G,H] = xI1 a d e := by kernel_rfl
theorem xLP {prog : Nat → Option AFunc} (s0 s3 s4 : AV) (H : Heap) : (lim prog).loop xHx xQc ⟨xI1 s0 s3 s4,H⟩ = xA9 (lim prog) xHx xQc (run (lim prog) xHw ⟨xI1 s0 s3 s4,H⟩) := xAh _ _ _ _ (by kernel_rfl)
def a18 : AFunc := ⟨34,
 oR ([oM 2 (.c (oS))])
 (oR ([oM 3 (.c (oS))])
 (.seq (oR ([oM 4 (.c (oI 0))])
 (.block 0 (.loop xHx xQc)))
 (oR ([oT 33 3,
 oT 2 33])
 .ret))),
 [.tmp 2]⟩
def xLQ : ACode :=
 oR ([oB 21 .lss 20 19])
 (.seq (.cond (.t 21)
 .skip
 (.exit 0))
 (.seq (.block 1 (oR ([oO 22 (.iaddr 6 (.t 18) (.t 20)),
 oG 23 6 22,
 oX 7 (.c (.agg [.int .u8 0,oI 0,oS,oI 0,oI 0,oI 0])),
 ⟨none,.store 6 (.t 7) (.t 23),none⟩])
 (oR ([oF 24 0 7,
 oH 25 1 24,
 oO 26 (.call 51 [.t 25])])
 (.cond (.t 26)
 (.region [oT 27 5,
 oT 28 5,
 oO 29 (.nilchk (.t 28)),
 oF 30 1 29,
 oH 31 1 30,
 oO 32 (.appendz [.int .u8 0] 1 (.t 31) (.c (oI 64))),
 oO 33 (.nilchk (.t 27)),
 oF 34 1 33,
 ⟨none,.store 1 (.t 34) (.t 32),none⟩])
 .skip))))
 (.region [oA 35 .add 20 (.c (oI 1)),
 oT 20 35])))
def xSz : ACode := xLQ
def xI2 : List Nat := [0,1,2,3,4,6,7,8,9,10,11,12,13,14,15,16,17,21,22,23,24,25,26,27,28,29,30,31,32,33,34,35,36]
abbrev xLR (s5 s18 s19 s20 : AV) : List AV := [oE,oE,oE,oE,oE,s5,oE,oE,oE,oE,oE,oE,oE,oE,oE,oE,oE,oE,s18,s19,s20,oE,oE,oE,oE,oE,oE,oE,oE,oE,oE,oE,oE,oE,oE,oE,oE]
theorem xOS (a b c d e f g h i j k l m n o p q r s t u v w x y z A B C D E F G H I J K : AV) : xAu xI2 [a,b,c,d,e,f,g,h,i,j,k,l,m,n,o,p,q,r,s,t,u,v,w,x,y,z,A,B,C,D,E,F,G,H,I,J,K] = xLR f s t u := by kernel_rfl
theorem xSA {prog : Nat → Option AFunc} (s5 s18 s19 s20 : AV) (H : Heap) : (lim prog).loop xI2 xSz ⟨xLR s5 s18 s19 s20,H⟩ = xA9 (lim prog) xI2 xSz (run (lim prog) xLQ ⟨xLR s5 s18 s19 s20,H⟩) := xAh _ _ _ _ (by kernel_rfl)
def a19 : AFunc := ⟨37,
 oR ([oM 2 (.c (.nilp)),
 oM 3 (.c (oI 0))])
 (.seq (oR ([oT 8 0,
 oO 9 (.call 34 [.t 8]),
 oT 4 9])
 (oR ([oT 10 4,
 oA 11 .neq 10 (.c (oI 0))])
 (.cond (.t 11)
 (oR ([oT 12 4,
 oM 2 (.c (.nilp)),
 oT 3 12])
 .ret)
 .skip)))
 (oR ([oT 13 0,
 oO 14 (.call 50 [.t 13]),
 oO 15 (.bslice false [.int .u8 0] 1 1 [(0,(.c (.int .u8 0)))]),
 oO 16 (.build [oS,oS] [(0,1,.t 14),(1,1,.t 15)]),
 oX 17 (.t 16),
 oT 5 17])
 (.seq (oR ([oT 18 0,
 oN 19 18,
 oM 20 (.c (oI 0))])
 (.block 0 (.loop xI2 xSz)))
 (oR ([oT 36 5,
 oT 2 36,
 oM 3 (.c (oI 0))])
 .ret)))),
 [.tmp 2,.tmp 3]⟩
def xLS : ACode :=
 .seq (oR ([oT 8 6,
 oT 9 0,
 oN 10 9,
 oB 11 .lss 8 10,
 oT 12 11,
 ⟨some 13,.mov (.t 6),some (12,true)⟩,
 ⟨some 14,.mov (.t 1),some (12,true)⟩,
 ⟨some 15,.bin .lss (.t 13) (.t 14),some (12,true)⟩,
 oO 16 (.pick (.t 12) (.t 15) (.c (.bool false)))])
 (.cond (.t 16)
 .skip
 (.exit 0)))
 (.seq (.block 1 (oR ([oT 19 0,
 oT 20 6,
 oO 21 (.iaddr 2 (.t 19) (.t 20)),
 oG 22 2 21,
 oX 7 (.c (.agg [oI 0,oS])),
 ⟨none,.store 2 (.t 7) (.t 22),none⟩])
 (oR ([oF 23 1 7,
 oH 24 1 23,
 oF 25 1 7,
 oH 26 1 25,
 oN 27 26,
 oO 28 (.mini (.t 27) (.c (oI 4))),
 oO 29 (.slice 1 (.t 24) none (some (.t 28)) none),
 oO 30 (.ocall 49 [.t 29]),
 oF 31 1 7,
 ⟨none,.store 1 (.t 31) (.t 30),none⟩])
 (.region [oT 32 5,
 oG 33 2 7,
 oO 34 (.bslice false [oI 0,oS] 2 1 [(0,.t 33)]),
 oO 35 (.append false 2 32 (.t 32) (.t 34)),
 oT 5 35]))))
 (.region [oT 17 6,
 oA 18 .add 17 (.c (oI 1)),
 oT 6 18]))
def xSB : ACode := xLS
def xI3 : List Nat := [2,3,4,7,8,9,10,11,12,13,14,15,16,17,18,19,20,21,22,23,24,25,26,27,28,29,30,31,32,33,34,35,36]
abbrev xLT (s0 s1 s5 s6 : AV) : List AV := [s0,s1,oE,oE,oE,s5,s6,oE,oE,oE,oE,oE,oE,oE,oE,oE,oE,oE,oE,oE,oE,oE,oE,oE,oE,oE,oE,oE,oE,oE,oE,oE,oE,oE,oE,oE,oE]
theorem xLU (a b c d e f g h i j k l m n o p q r s t u v w x y z A B C D E F G H I J K : AV) : xAu xI3 [a,b,c,d,e,f,g,h,i,j,k,l,m,n,o,p,q,r,s,t,u,v,w,x,y,z,A,B,C,D,E,F,G,H,I,J,K] = xLT a b f g := by kernel_rfl
theorem xSC {prog : Nat → Option AFunc} (s0 s1 s5 s6 : AV) (H : Heap) : (lim prog).loop xI3 xSB ⟨xLT s0 s1 s5 s6,H⟩ = xA9 (lim prog) xI3 xSB (run (lim prog) xLS ⟨xLT s0 s1 s5 s6,H⟩) := xAh _ _ _ _ (by kernel_rfl)
def a21 : AFunc := ⟨37,
 oR ([oM 4 (.c (oS))])
 (oR ([oM 5 (.c (oS))])
 (.seq (oR ([oM 6 (.c (oI 0))])
 (.block 0 (.loop xI3 xSB)))
 (oR ([oT 36 5,
 oT 4 36])
 .ret))),
 [.tmp 4]⟩
def xHy : ACode :=
 oR ([oB 41 .lss 40 39])
 (.seq (.cond (.t 41)
 .skip
 (.exit 0))
 (.seq (.block 1 (oR ([oO 42 (.iaddr 6 (.t 38) (.t 40)),
 oG 43 6 42,
 oX 10 (.c (.agg [.int .u8 0,oI 0,oS,oI 0,oI 0,oI 0])),
 ⟨none,.store 6 (.t 10) (.t 43),none⟩])
 (.seq (oR ([oF 44 0 10,
 oH 45 1 44,
 oO 46 (.call 51 [.t 45]),
 oO 47 (.un .not (.t 46))])
 (.cond (.t 47)
 (.seq (.draw 12 [oT 48 7,
 oT 49 7,
 oO 50 (.nilchk (.t 49)),
 oF 51 2 50,
 oH 52 1 51,
 oT 53 6,
 oF 54 0 10,
 oH 55 1 54,
 oO 56 (.mlook [0] false (.nilf) (.t 53) (.t 55)),
 oT 57 7,
 oG 58 6 10,
 oO 59 (.fcall (.t 56) [.t 57,.t 58]),
 oO 60 (.bslice true [.int .u64 0,.int .u64 0,.int .u64 0,.int .u64 0,.int .u64 0,.int .u64 0,.int .u64 0,.int .u64 0] 8 1 [(0,.t 59)]),
 oO 61 (.append false 8 64 (.t 52) (.t 60)),
 oO 62 (.nilchk (.t 48)),
 oF 63 2 62,
 ⟨none,.store 1 (.t 63) (.t 61),none⟩])
 (.exit 1))
 .skip))
 (oR ([oT 64 0,
 oO 65 (.nilchk (.t 64)),
 oF 66 1 65,
 oH 67 1 66,
 oT 68 8,
 oT 69 8,
 oA 70 .add 69 (.c (oI 64)),
 oT 71 8,
 oA 72 .add 71 (.c (oI 64)),
 oO 73 (.slice 1 (.t 67) (some (.t 68)) (some (.t 70)) (some (.t 72))),
 oT 11 73])
 (oR ([oT 74 7,
 oT 75 11,
 oO 76 (.call 56 [.t 75]),
 oO 77 (.nilchk (.t 74)),
 oF 78 3 77,
 ⟨none,.store 8 (.t 78) (.t 76),none⟩])
 (oR ([oT 79 6,
 oF 80 0 10,
 oH 81 1 80,
 oO 82 (.mlook [0] false (.nilf) (.t 79) (.t 81)),
 oT 83 7,
 oG 84 6 10,
 oO 85 (.icall (.t 82) [.t 83,.t 84]),
 oX 12 (.c (.agg [.int .u64 0,.int .u64 0,.int .u64 0,.int .u64 0,.int .u64 0,.int .u64 0,.int .u64 0,.int .u64 0])),
 ⟨none,.store 8 (.t 12) (.t 85),none⟩])
 (.seq (.draw 5 [oT 86 7,
 oT 87 7,
 oO 88 (.nilchk (.t 87)),
 oF 89 2 88,
 oH 90 1 89,
 oG 91 8 12,
 oO 92 (.bslice true [.int .u64 0,.int .u64 0,.int .u64 0,.int .u64 0,.int .u64 0,.int .u64 0,.int .u64 0,.int .u64 0] 8 1 [(0,.t 91)]),
 oO 93 (.append false 8 64 (.t 90) (.t 92)),
 oO 94 (.nilchk (.t 86)),
 oF 95 2 94,
 ⟨none,.store 1 (.t 95) (.t 93),none⟩])
 (.seq (oR ([oF 96 0 10,
 oH 97 1 96,
 oA 98 .eql 97 (.c (.int .u8 8))])
 (.cond (.t 98)
 (.draw 4 [oT 99 7,
 oO 100 (.nilchk (.t 99)),
 oF 101 2 100,
 oH 102 1 101,
 oF 103 4 10,
 oH 104 1 103,
 oO 105 (.iaddr 8 (.t 102) (.t 104)),
 oG 106 8 105,
 ⟨none,.store 8 (.t 12) (.t 106),none⟩])
 .skip))
 (oR ([oT 107 11,
 oG 108 8 12,
 oO 109 (.icall (.c (.func 57 [])) [.t 107,.t 108])])
 (.region [oT 110 8,
 oA 111 .add 110 (.c (oI 64)),
 oT 8 111]))))))))))
 (.region [oA 112 .add 40 (.c (oI 1)),
 oT 40 112])))
def xJ1 : ACode := xHy
def xEd : List Nat := [1,2,3,4,5,9,10,11,12,13,14,15,16,17,18,19,20,21,22,23,24,25,26,27,28,29,30,31,32,33,34,35,36,37,41,42,43,44,45,46,47,48,49,50,51,52,53,54,55,56,57,58,59,60,61,62,63,64,65,66,67,68,69,70,71,72,73,74,75,76,77,78,79,80,81,82,83,84,85,86,87,88,89,90,91,92,93,94,95,96,97,98,99,100,101,102,103,104,105,106,107,108,109,110,111,112,113,114,115,116,117,118,119,120,121,122,123,124,125,126,127]
abbrev xLV (s0 s6 s7 s8 s38 s39 s40 : AV) : List AV := [s0,oE,oE,oE,oE,oE,s6,s7,s8,oE,oE,oE,oE,oE,oE,oE,oE,oE,oE,oE,oE,oE,oE,oE,oE,oE,oE,oE,oE,oE,oE,oE,oE,oE,oE,oE,oE,oE,s38,s39,s40,oE,oE,oE,oE,oE,oE,oE,oE,oE,oE,oE,oE,oE,oE,oE,oE,oE,oE,oE,oE,oE,oE,oE,oE,oE,oE,oE,oE,oE,oE,oE,oE,oE,oE,oE,oE,oE,oE,oE,oE,oE,oE,oE,oE,oE,oE,oE,oE,oE,oE,oE,oE,oE,oE,oE,oE,oE,oE,oE,oE,oE,oE,oE,oE,oE,oE,oE,oE,oE,oE,oE,oE,oE,oE,oE,oE,oE,oE,oE,oE,oE,oE,oE,oE,oE,oE,oE]
theorem xI4 (a b c d e f g h i j k l m n o p q r s t u v w x y z A B C D E F G H I J K L M N O P Q R S T U V W X Y Z a0 a1 a2 a3 a4 a5 a6 a7 a8 a9 b0 b1 b2 b3 b4 b5 b6 b7 b8 b9 c0 c1 c2 c3 c4 c5 c6 c7 c8 c9 d0 d1 d2 d3 d4 d5 d6 d7 d8 d9 e0 e1 e2 e3 e4 e5 e6 e7 e8 e9 f0 f1 f2 f3 f4 f5 f6 f7 f8 f9 g0 g1 g2 g3 g4 g5 g6 g7 g8 g9 h0 h1 h2 h3 h4 h5 : AV) : xAu xEd [a,b,c,d,e,f,g,h,i,j,k,l,m,n,o,p,q,r,s,t,u,v,w,x,y,z,A,B,C,D,E,F,G,H,I,J,K,L,M,N,O,P,Q,R,S,T,U,V,W,X,Y,Z,a0,a1,a2,a3,a4,a5,a6,a7,a8,a9,b0,b1,b2,b3,b4,b5,b6,b7,b8,b9,c0,c1,c2,c3,c4,c5,c6,c7,c8,c9,d0,d1,d2,d3,d4,d5,d6,d7,d8,d9,e0,e1,e2,e3,e4,e5,e6,e7,e8,e9,f0,f1,f2,f3,f4,f5,f6,f7,f8,f9,g0,g1,g2,g3,g4,g5,g6,g7,g8,g9,h0,h1,h2,h3,h4,h5] = xLV a g h i M N O := by kernel_rfl
theorem xLW {prog : Nat → Option AFunc} (s0 s6 s7 s8 s38 s39 s40 : AV) (H : Heap) : (lim prog).loop xEd xJ1 ⟨xLV s0 s6 s7 s8 s38 s39 s40,H⟩ = xA9 (lim prog) xEd xJ1 (run (lim prog) xHy ⟨xLV s0 s6 s7 s8 s38 s39 s40,H⟩) := xAh _ _ _ _ (by kernel_rfl)
def a22 : AFunc := ⟨128,
 oR ([oX 3 (.t 1),
 oM 4 (.c (.bool false)),
 oM 5 (.c (oI 0))])
 (.seq (oR ([oT 13 0,
 oO 14 (.pnil false (.t 13)),
 oT 15 14,
 ⟨some 16,.mov (.t 0),some (15,false)⟩,
 ⟨some 17,.nilchk (.t 16),some (15,false)⟩,
 ⟨some 18,.faddr 0 (.t 17),some (15,false)⟩,
 ⟨some 19,.load false 1 (.t 18),some (15,false)⟩,
 ⟨some 20,.len (.t 19),some (15,false)⟩,
 ⟨some 21,.bin .eql (.t 20) (.c (oI 0)),some (15,false)⟩,
 oO 22 (.pick (.t 15) (.c (.bool true)) (.t 21))])
 (.cond (.t 22)
 (oR ([oM 4 (.c (.bool false)),
 oM 5 (.c (oI 12))])
 .ret)
 .skip))
 (.seq (oR ([oG 23 2 3,
 oO 24 (.call 54 [.t 23]),
 oO 25 (.un .not (.t 24))])
 (.cond (.t 25)
 (oR ([oM 4 (.c (.bool false)),
 oM 5 (.c (oI 1))])
 .ret)
 .skip))
 (oR ([oO 26 (.icall (.c (.func 55 [])) []),
 oT 6 26])
 (oR ([oG 27 2 3,
 oO 28 (.build [oI 0,oS,oS,.int .u64 0,.int .u64 0,.int .u64 0,.int .u64 0,.int .u64 0,.int .u64 0,.int .u64 0,.int .u64 0,.bool false] [(0,2,.t 27)]),
 oX 29 (.t 28),
 oT 7 29])
 (oR ([oT 30 0,
 oO 31 (.nilchk (.t 30)),
 oF 32 1 31,
 oH 33 1 32,
 oO 34 (.iaddr 1 (.t 33) (.c (oI 0))),
 ⟨none,.store 1 (.t 34) (.c (.int .u8 1)),none⟩])
 (oR ([oM 8 (.c (oI 1))])
 (.seq (oR ([oT 35 0,
 oO 36 (.nilchk (.t 35)),
 oF 37 0 36,
 oH 38 1 37,
 oN 39 38,
 oM 40 (.c (oI 0))])
 (.block 0 (.loop xEd xJ1)))
 (.seq (.draw 4 [oT 113 7,
 oO 114 (.nilchk (.t 113)),
 oF 115 2 114,
 oH 116 1 115,
 oT 117 7,
 oO 118 (.nilchk (.t 117)),
 oF 119 2 118,
 oH 120 1 119,
 oN 121 120,
 oA 122 .sub 121 (.c (oI 1)),
 oO 123 (.iaddr 8 (.t 116) (.t 122)),
 oO 124 (.arrat 1 8 (.t 123) (.c (oI 0))),
 oH 125 1 124,
 oA 126 .and 125 (.c (.int .u64 1)),
 oA 127 .neq 126 (.c (.int .u64 0)),
 oT 4 127,
 oM 5 (.c (oI 0))])
 .ret)))))))),
 [.tmp 4,.tmp 5]⟩
def a24 : AFunc := ⟨10,
 oR ([oM 2 (.c (oS))])
 (.seq (oR ([oT 3 0,
 oO 4 (.pnil false (.t 3))])
 (.cond (.t 4)
 (oR ([oM 2 (.c (oS))])
 .ret)
 .skip))
 (oR ([oT 5 0,
 oO 6 (.nilchk (.t 5)),
 oF 7 1 6,
 oH 8 1 7,
 oO 9 (.icall (.c (.func 60 [])) [.t 8]),
 oT 2 9])
 .ret)),
 [.tmp 2]⟩
def xI5 : ACode :=
 .seq (oR ([oT 11 5,
 oT 12 0,
 oN 13 12,
 oB 14 .lss 11 13])
 (.cond (.t 14)
 .skip
 (.exit 0)))
 (.seq (.block 1 (.seq (.draw 5 [oT 17 0,
 oT 18 5,
 oO 19 (.iaddr 1 (.t 17) (.t 18)),
 oH 20 1 19,
 oT 21 1,
 oT 22 5,
 oO 23 (.iaddr 1 (.t 21) (.t 22)),
 oH 24 1 23,
 oB 25 .neq 20 24])
 (.cond (.t 25)
 (oR ([oM 4 (.c (.bool false))])
 .ret)
 .skip)))
 (.region [oT 15 5,
 oA 16 .add 15 (.c (oI 1)),
 oT 5 16]))
def xUV : ACode := xI5
def xLX : List Nat := [2,3,6,7,8,9,10,11,12,13,14,15,16,17,18,19,20,21,22,23,24,25]
abbrev xI6 (s0 s1 s4 s5 : AV) : List AV := [s0,s1,oE,oE,s4,s5,oE,oE,oE,oE,oE,oE,oE,oE,oE,oE,oE,oE,oE,oE,oE,oE,oE,oE,oE,oE]
theorem xI7 (a b c d e f g h i j k l m n o p q r s t u v w x y z : AV) : xAu xLX [a,b,c,d,e,f,g,h,i,j,k,l,m,n,o,p,q,r,s,t,u,v,w,x,y,z] = xI6 a b e f := by kernel_rfl
theorem xSD {prog : Nat → Option AFunc} (s0 s1 s4 s5 : AV) (H : Heap) : (lim prog).loop xLX xUV ⟨xI6 s0 s1 s4 s5,H⟩ = xA9 (lim prog) xLX xUV (run (lim prog) xI5 ⟨xI6 s0 s1 s4 s5,H⟩) := xAh _ _ _ _ (by kernel_rfl)
def a25 : AFunc := ⟨26,
 oR ([oM 4 (.c (.bool false))])
 (.seq (oR ([oT 6 0,
 oN 7 6,
 oT 8 1,
 oN 9 8,
 oB 10 .neq 7 9])
 (.cond (.t 10)
 (oR ([oM 4 (.c (.bool false))])
 .ret)
 .skip))
 (.seq (oR ([oM 5 (.c (oI 0))])
 (.block 0 (.loop xLX xUV)))
 (oR ([oM 4 (.c (.bool true))])
 .ret))),
 [.tmp 4]⟩
def a29 : AFunc := ⟨53,
 oR ([oM 4 (.c (.nilp)),
 oM 5 (.c (oI 0))])
 (oR ([oT 9 0,
 oO 10 (.icall (.c (.func 19 [])) [.t 9]),
 oT 8 10,
 oO 11 (.ext 0 (.t 8)),
 oO 12 (.ext 1 (.t 8)),
 oT 6 11,
 oT 7 12])
 (.seq (.block 0 (oR ([oT 14 7,
 oA 15 .neq 14 (.c (oI 0)),
 oT 13 15])
 (.cond (.t 13)
 (oR ([oT 16 7,
 oM 4 (.c (.nilp)),
 oT 5 16])
 .ret)
 (oR ([oT 18 1,
 oN 19 18,
 oT 20 6,
 oO 21 (.nilchk (.t 20)),
 oF 22 1 21,
 oH 23 1 22,
 oN 24 23,
 oB 25 .neq 19 24,
 oT 26 25,
 ⟨some 27,.mov (.t 1),some (26,false)⟩,
 ⟨some 28,.iaddr 1 (.t 27) (.c (oI 0)),some (26,false)⟩,
 ⟨some 29,.load false 1 (.t 28),some (26,false)⟩,
 ⟨some 30,.bin .gtr (.t 29) (.c (.int .u8 1)),some (26,false)⟩,
 oO 31 (.pick (.t 26) (.c (.bool true)) (.t 30)),
 oT 32 31,
 ⟨some 33,.mov (.t 1),some (32,false)⟩,
 ⟨some 34,.iaddr 1 (.t 33) (.c (oI 0)),some (32,false)⟩,
 ⟨some 35,.load false 1 (.t 34),some (32,false)⟩,
 ⟨some 36,.bin .eql (.t 35) (.c (.int .u8 0)),some (32,false)⟩,
 ⟨some 37,.mov (.t 36),some (32,false)⟩,
 ⟨some 38,.mov (.t 1),some (37,true)⟩,
 ⟨some 39,.mov (.t 6),some (37,true)⟩,
 ⟨some 40,.nilchk (.t 39),some (37,true)⟩,
 ⟨some 41,.faddr 1 (.t 40),some (37,true)⟩,
 ⟨some 42,.load false 1 (.t 41),some (37,true)⟩,
 ⟨some 43,.icall (.c (.func 62 [])) [.t 38,.t 42],some (37,true)⟩,
 ⟨some 44,.un .not (.t 43),some (37,true)⟩,
 ⟨some 45,.pick (.t 37) (.t 44) (.c (.bool false)),some (32,false)⟩,
 oO 46 (.pick (.t 32) (.c (.bool true)) (.t 45)),
 oT 17 46])
 (.cond (.t 17)
 (oR ([oM 4 (.c (.nilp)),
 oM 5 (.c (oI 2))])
 .ret)
 .skip)))))
 (oR ([oT 47 6,
 oT 48 1,
 oO 49 (.icall (.c (.func 60 [])) [.t 48]),
 oO 50 (.nilchk (.t 47)),
 oF 51 1 50,
 ⟨none,.store 1 (.t 51) (.t 49),none⟩])
 (oR ([oT 52 6,
 oT 4 52,
 oM 5 (.c (oI 0))])
 .ret)))),
 [.tmp 4,.tmp 5]⟩
def xE1 : ACode :=
 .seq (oR ([oT 15 10,
 oT 16 1,
 oN 17 16,
 oB 18 .lss 15 17,
 oT 19 18,
 ⟨some 20,.mov (.t 9),some (19,true)⟩,
 ⟨some 21,.len (.t 20),some (19,true)⟩,
 ⟨some 22,.mov (.t 2),some (19,true)⟩,
 ⟨some 23,.bin .lss (.t 21) (.t 22),some (19,true)⟩,
 oO 24 (.pick (.t 19) (.t 23) (.c (.bool false)))])
 (.cond (.t 24)
 .skip
 (.exit 0)))
 (.seq (.block 1 (oR ([oO 28 (.build [.int .u8 0,oI 0,oS,oI 0,oI 0,oI 0] [(0,1,(.c (.int .u8 1)))]),
 oO 29 (.bslice true [.int .u8 0,oI 0,oS,oI 0,oI 0,oI 0] 6 1 [(0,.t 28)]),
 oT 30 1,
 oT 31 10,
 oT 32 10,
 oA 33 .add 32 (.c (oI 1)),
 oO 34 (.slice 2 (.t 30) (some (.t 31)) (some (.t 33)) none),
 oO 35 (.call 35 [.t 29,.t 34]),
 oT 27 35,
 oO 36 (.ext 0 (.t 27)),
 oO 37 (.ext 1 (.t 27)),
 oT 11 36,
 oT 12 37])
 (oR ([oT 38 12,
 oA 39 .eql 38 (.c (oI 0))])
 (.cond (.t 39)
 (.region [oT 40 9,
 oT 41 1,
 oT 42 10,
 oO 43 (.iaddr 2 (.t 41) (.t 42)),
 oG 44 2 43,
 oO 45 (.bslice true [oI 0,oS] 2 1 [(0,.t 44)]),
 oO 46 (.append false 2 32 (.t 40) (.t 45)),
 oT 9 46])
 .skip))))
 (.region [oT 25 10,
 oA 26 .add 25 (.c (oI 1)),
 oT 10 26]))
def xSE : ACode := xE1
def xI8 : List Nat := [3,4,5,6,7,8,11,12,13,14,15,16,17,18,19,20,21,22,23,24,25,26,27,28,29,30,31,32,33,34,35,36,37,38,39,40,41,42,43,44,45,46,47,48,49,50,51,52,53,54,55,56,57,58,59,60,61,62,63]
abbrev xLY (s0 s1 s2 s9 s10 : AV) : List AV := [s0,s1,s2,oE,oE,oE,oE,oE,oE,s9,s10,oE,oE,oE,oE,oE,oE,oE,oE,oE,oE,oE,oE,oE,oE,oE,oE,oE,oE,oE,oE,oE,oE,oE,oE,oE,oE,oE,oE,oE,oE,oE,oE,oE,oE,oE,oE,oE,oE,oE,oE,oE,oE,oE,oE,oE,oE,oE,oE,oE,oE,oE,oE,oE]
theorem xDM (a b c d e f g h i j k l m n o p q r s t u v w x y z A B C D E F G H I J K L M N O P Q R S T U V W X Y Z a0 a1 a2 a3 a4 a5 a6 a7 a8 a9 b0 b1 : AV) : xAu xI8 [a,b,c,d,e,f,g,h,i,j,k,l,m,n,o,p,q,r,s,t,u,v,w,x,y,z,A,B,C,D,E,F,G,H,I,J,K,L,M,N,O,P,Q,R,S,T,U,V,W,X,Y,Z,a0,a1,a2,a3,a4,a5,a6,a7,a8,a9,b0,b1] = xLY a b c j k := by kernel_rfl
theorem xHz {prog : Nat → Option AFunc} (s0 s1 s2 s9 s10 : AV) (H : Heap) : (lim prog).loop xI8 xSE ⟨xLY s0 s1 s2 s9 s10,H⟩ = xA9 (lim prog) xI8 xSE (run (lim prog) xE1 ⟨xLY s0 s1 s2 s9 s10,H⟩) := xAh _ _ _ _ (by kernel_rfl)
def a33 : AFunc := ⟨64,
 oR ([oM 6 (.c (oS)),
 oM 7 (.c (oS)),
 oM 8 (.c (.bool false))])
 (oR ([oM 9 (.c (oS))])
 (.seq (oR ([oM 10 (.c (oI 0))])
 (.block 0 (.loop xI8 xSE)))
 (oR ([oT 48 0,
 oT 49 9,
 oO 50 (.call 35 [.t 48,.t 49]),
 oT 47 50,
 oO 51 (.ext 0 (.t 47)),
 oO 52 (.ext 1 (.t 47)),
 oT 13 51,
 oT 14 52])
 (oR ([oT 53 13,
 oT 54 9,
 oT 55 14,
 oA 56 .eql 55 (.c (oI 0)),
 oT 57 56,
 ⟨some 58,.mov (.t 13),some (57,true)⟩,
 ⟨some 59,.len (.t 58),some (57,true)⟩,
 ⟨some 60,.mov (.t 9),some (57,true)⟩,
 ⟨some 61,.len (.t 60),some (57,true)⟩,
 ⟨some 62,.bin .eql (.t 59) (.t 61),some (57,true)⟩,
 oO 63 (.pick (.t 57) (.t 62) (.c (.bool false))),
 oT 6 53,
 oT 7 54,
 oT 8 63])
 .ret)))),
 [.tmp 6,.tmp 7,.tmp 8]⟩
def xLZ : ACode :=
 oR ([oB 20 .lss 19 18])
 (.seq (.cond (.t 20)
 .skip
 (.exit 1))
 (.seq (.block 2 (oR ([oT 21 19,
 oO 22 (.iaddr 6 (.t 17) (.t 19)),
 oG 23 6 22,
 oX 5 (.c (.agg [.int .u8 0,oI 0,oS,oI 0,oI 0,oI 0])),
 oT 4 21,
 ⟨none,.store 6 (.t 5) (.t 23),none⟩])
 (.seq (.draw 2 [oG 24 6 5,
 oT 25 3,
 oT 26 4,
 oO 27 (.iaddr 1 (.t 25) (.t 26)),
 oH 28 1 27,
 oO 29 (.call 67 [.t 24,.t 28]),
 oT 6 29])
 (oR ([oT 30 6,
 oA 31 .neq 30 (.c (oI 0))])
 (.cond (.t 31)
 (oR ([oT 32 6,
 oT 2 32])
 .ret)
 .skip)))))
 (.region [oA 33 .add 19 (.c (oI 1)),
 oT 19 33])))
def xSF : ACode := xLZ
def xI9 : List Nat := [1,4,5,6,7,8,9,10,11,12,13,14,15,16,20,21,22,23,24,25,26,27,28,29,30,31,32,33,34,35,36,37,38,39,40,41,42,43,44,45,46,47,48,49]
abbrev xL0 (s0 s2 s3 s17 s18 s19 : AV) : List AV := [s0,oE,s2,s3,oE,oE,oE,oE,oE,oE,oE,oE,oE,oE,oE,oE,oE,s17,s18,s19,oE,oE,oE,oE,oE,oE,oE,oE,oE,oE,oE,oE,oE,oE,oE,oE,oE,oE,oE,oE,oE,oE,oE,oE,oE,oE,oE,oE,oE,oE]
theorem xHA (a b c d e f g h i j k l m n o p q r s t u v w x y z A B C D E F G H I J K L M N O P Q R S T U V W X : AV) : xAu xI9 [a,b,c,d,e,f,g,h,i,j,k,l,m,n,o,p,q,r,s,t,u,v,w,x,y,z,A,B,C,D,E,F,G,H,I,J,K,L,M,N,O,P,Q,R,S,T,U,V,W,X] = xL0 a c d r s t := by kernel_rfl
theorem xSG {prog : Nat → Option AFunc} (s0 s2 s3 s17 s18 s19 : AV) (H : Heap) : (lim prog).loop xI9 xSF ⟨xL0 s0 s2 s3 s17 s18 s19,H⟩ = xA9 (lim prog) xI9 xSF (run (lim prog) xLZ ⟨xL0 s0 s2 s3 s17 s18 s19,H⟩) := xAh _ _ _ _ (by kernel_rfl)
def a34 : AFunc := ⟨50,
 oR ([oM 2 (.c (oI 0))])
 (.seq (.block 0 (oR ([oT 8 0,
 oN 9 8,
 oA 10 .eql 9 (.c (oI 0)),
 oT 7 10])
 (.cond (.t 7)
 (oR ([oM 2 (.c (oI 3))])
 .ret)
 (oR ([oT 12 0,
 oN 13 12,
 oA 14 .gtr 13 (.c (oI 64)),
 oT 11 14])
 (.cond (.t 11)
 (oR ([oM 2 (.c (oI 4))])
 .ret)
 .skip)))))
 (oR ([oT 15 0,
 oO 16 (.call 66 [.t 15]),
 oT 3 16])
 (.seq (oR ([oT 17 0,
 oN 18 17,
 oM 19 (.c (oI 0))])
 (.block 1 (.loop xI9 xSF)))
 (.seq (.block 3 (oR ([oT 35 3,
 oT 36 0,
 oN 37 36,
 oA 38 .sub 37 (.c (oI 1)),
 oO 39 (.iaddr 1 (.t 35) (.t 38)),
 oH 40 1 39,
 oT 41 0,
 oN 42 41,
 oB 43 .neq 40 42,
 oT 34 43])
 (.cond (.t 34)
 (oR ([oM 2 (.c (oI 2))])
 .ret)
 (oR ([oT 45 0,
 oT 46 0,
 oN 47 46,
 oA 48 .sub 47 (.c (oI 1)),
 oO 49 (.call 42 [.t 45,.t 48,(.c (.int .u64 0))]),
 oT 44 49])
 (.cond (.t 44)
 (oR ([oM 2 (.c (oI 11))])
 .ret)
 .skip)))))
 (oR ([oM 2 (.c (oI 0))])
 .ret))))),
 [.tmp 2]⟩
def xJa : ACode :=
 oR ([oB 29 .lss 28 27])
 (.seq (.cond (.t 29)
 .skip
 (.exit 1))
 (.seq (.block 2 (oR ([oO 30 (.iaddr 2 (.t 26) (.t 28)),
 oG 31 2 30,
 oX 10 (.c (.agg [oI 0,oS])),
 ⟨none,.store 2 (.t 10) (.t 31),none⟩])
 (oR ([oT 33 6,
 oG 34 2 10,
 oO 35 (.icall (.c (.func 22 [])) [.t 33,.t 34]),
 oT 32 35,
 oO 36 (.ext 0 (.t 32)),
 oO 37 (.ext 1 (.t 32)),
 oT 11 36,
 oT 12 37])
 (.seq (oR ([oT 38 12,
 oA 39 .neq 38 (.c (oI 0))])
 (.cond (.t 39)
 (oR ([oT 40 12,
 oM 4 (.c (oS)),
 oT 5 40])
 .ret)
 .skip))
 (.region [oT 41 8,
 oT 42 11,
 oO 43 (.bslice true [.bool false] 1 1 [(0,.t 42)]),
 oO 44 (.append false 1 1 (.t 41) (.t 43)),
 oT 8 44])))))
 (.region [oA 45 .add 28 (.c (oI 1)),
 oT 28 45])))
def xQd : ACode := xJa
def xHB : List Nat := [0,1,2,3,7,9,10,11,12,13,14,15,16,17,18,19,20,21,22,23,24,25,29,30,31,32,33,34,35,36,37,38,39,40,41,42,43,44,45,46]
abbrev xL1 (s4 s5 s6 s8 s26 s27 s28 : AV) : List AV := [oE,oE,oE,oE,s4,s5,s6,oE,s8,oE,oE,oE,oE,oE,oE,oE,oE,oE,oE,oE,oE,oE,oE,oE,oE,oE,s26,s27,s28,oE,oE,oE,oE,oE,oE,oE,oE,oE,oE,oE,oE,oE,oE,oE,oE,oE,oE]
theorem xHC (a b c d e f g h i j k l m n o p q r s t u v w x y z A B C D E F G H I J K L M N O P Q R S T U : AV) : xAu xHB [a,b,c,d,e,f,g,h,i,j,k,l,m,n,o,p,q,r,s,t,u,v,w,x,y,z,A,B,C,D,E,F,G,H,I,J,K,L,M,N,O,P,Q,R,S,T,U] = xL1 e f g i A B C := by kernel_rfl
theorem xOT {prog : Nat → Option AFunc} (s4 s5 s6 s8 s26 s27 s28 : AV) (H : Heap) : (lim prog).loop xHB xQd ⟨xL1 s4 s5 s6 s8 s26 s27 s28,H⟩ = xA9 (lim prog) xHB xQd (run (lim prog) xJa ⟨xL1 s4 s5 s6 s8 s26 s27 s28,H⟩) := xAh _ _ _ _ (by kernel_rfl)
def a35 : AFunc := ⟨47,
 oR ([oM 4 (.c (oS)),
 oM 5 (.c (oI 0))])
 (oR ([oT 14 0,
 oO 15 (.icall (.c (.func 19 [])) [.t 14]),
 oT 13 15,
 oO 16 (.ext 0 (.t 13)),
 oO 17 (.ext 1 (.t 13)),
 oT 6 16,
 oT 7 17])
 (.seq (.block 0 (oR ([oT 19 7,
 oA 20 .neq 19 (.c (oI 0)),
 oT 18 20])
 (.cond (.t 18)
 (oR ([oT 21 7,
 oM 4 (.c (oS)),
 oT 5 21])
 .ret)
 (oR ([oT 23 1,
 oN 24 23,
 oA 25 .gtr 24 (.c (oI 64)),
 oT 22 25])
 (.cond (.t 22)
 (oR ([oM 4 (.c (oS)),
 oM 5 (.c (oI 4))])
 .ret)
 .skip)))))
 (oR ([oM 8 (.c (oS))])
 (.seq (oR ([oT 26 1,
 oN 27 26,
 oM 28 (.c (oI 0))])
 (.block 1 (.loop xHB xQd)))
 (oR ([oT 46 8,
 oT 4 46,
 oM 5 (.c (oI 0))])
 .ret))))),
 [.tmp 4,.tmp 5]⟩
def xJb : ACode :=
 .seq (oR ([oT 11 5,
 oT 12 0,
 oN 13 12,
 oB 14 .lss 11 13])
 (.cond (.t 14)
 .skip
 (.exit 0)))
 (.seq (.block 1 (.seq (.draw 5 [oT 17 0,
 oT 18 5,
 oO 19 (.iaddr 1 (.t 17) (.t 18)),
 oH 20 1 19,
 oT 21 1,
 oT 22 5,
 oO 23 (.iaddr 1 (.t 21) (.t 22)),
 oH 24 1 23,
 oO 25 (.beq true (.t 20) (.t 24))])
 (.cond (.t 25)
 (oR ([oM 4 (.c (.bool false))])
 .ret)
 .skip)))
 (.region [oT 15 5,
 oA 16 .add 15 (.c (oI 1)),
 oT 5 16]))
def xUW : ACode := xJb
def xL2 : List Nat := [2,3,6,7,8,9,10,11,12,13,14,15,16,17,18,19,20,21,22,23,24,25]
abbrev xJc (s0 s1 s4 s5 : AV) : List AV := [s0,s1,oE,oE,s4,s5,oE,oE,oE,oE,oE,oE,oE,oE,oE,oE,oE,oE,oE,oE,oE,oE,oE,oE,oE,oE]
theorem xJd (a b c d e f g h i j k l m n o p q r s t u v w x y z : AV) : xAu xL2 [a,b,c,d,e,f,g,h,i,j,k,l,m,n,o,p,q,r,s,t,u,v,w,x,y,z] = xJc a b e f := by kernel_rfl
theorem xSH {prog : Nat → Option AFunc} (s0 s1 s4 s5 : AV) (H : Heap) : (lim prog).loop xL2 xUW ⟨xJc s0 s1 s4 s5,H⟩ = xA9 (lim prog) xL2 xUW (run (lim prog) xJb ⟨xJc s0 s1 s4 s5,H⟩) := xAh _ _ _ _ (by kernel_rfl)
def a36 : AFunc := ⟨26,
 oR ([oM 4 (.c (.bool false))])
 (.seq (oR ([oT 6 0,
 oN 7 6,
 oT 8 1,
 oN 9 8,
 oB 10 .neq 7 9])
 (.cond (.t 10)
 (oR ([oM 4 (.c (.bool false))])
 .ret)
 .skip))
 (.seq (oR ([oM 5 (.c (oI 0))])
 (.block 0 (.loop xL2 xUW)))
 (oR ([oM 4 (.c (.bool true))])
 .ret))),
 [.tmp 4]⟩
def xJe : ACode :=
 .seq (oR ([oT 7 6,
 oT 8 0,
 oN 9 8,
 oB 10 .lss 7 9])
 (.cond (.t 10)
 .skip
 (.exit 0)))
 (.seq (.block 1 (oR ([oT 13 0,
 oT 14 6,
 oO 15 (.iaddr 1 (.t 13) (.t 14)),
 oH 16 1 15])
 (.block 2 (oR ([oT 18 1,
 oB 19 .eql 16 18,
 oT 17 19])
 (.cond (.t 17)
 (.region [oT 20 0,
 oT 21 6,
 oT 22 2,
 oO 23 (.iaddr 1 (.t 20) (.t 21)),
 ⟨none,.store 1 (.t 23) (.t 22),none⟩])
 (oR ([oT 25 2,
 oB 26 .eql 16 25,
 oT 24 26])
 (.cond (.t 24)
 (.region [oT 27 0,
 oT 28 6,
 oT 29 1,
 oO 30 (.iaddr 1 (.t 27) (.t 28)),
 ⟨none,.store 1 (.t 30) (.t 29),none⟩])
 .skip)))))))
 (.region [oT 11 6,
 oA 12 .add 11 (.c (oI 1)),
 oT 6 12]))
def xSI : ACode := xJe
def xJf : List Nat := [3,4,5,7,8,9,10,11,12,13,14,15,16,17,18,19,20,21,22,23,24,25,26,27,28,29,30]
abbrev xL3 (s0 s1 s2 s6 : AV) : List AV := [s0,s1,s2,oE,oE,oE,s6,oE,oE,oE,oE,oE,oE,oE,oE,oE,oE,oE,oE,oE,oE,oE,oE,oE,oE,oE,oE,oE,oE,oE,oE]
theorem xL4 (a b c d e f g h i j k l m n o p q r s t u v w x y z A B C D E : AV) : xAu xJf [a,b,c,d,e,f,g,h,i,j,k,l,m,n,o,p,q,r,s,t,u,v,w,x,y,z,A,B,C,D,E] = xL3 a b c g := by kernel_rfl
theorem xOU {prog : Nat → Option AFunc} (s0 s1 s2 s6 : AV) (H : Heap) : (lim prog).loop xJf xSI ⟨xL3 s0 s1 s2 s6,H⟩ = xA9 (lim prog) xJf xSI (run (lim prog) xJe ⟨xL3 s0 s1 s2 s6,H⟩) := xAh _ _ _ _ (by kernel_rfl)
def a37 : AFunc := ⟨31,
 oR ([oM 6 (.c (oI 0))])
 (.block 0 (.loop xJf xSI)),
 []⟩
def a39 : AFunc := ⟨13,
 oR ([oM 2 (.c (oS))])
 (oR ([oT 7 0,
 oO 8 (.call 12 [.t 7]),
 oT 6 8,
 oO 9 (.ext 0 (.t 6)),
 oO 10 (.ext 1 (.t 6)),
 oO 11 (.ext 2 (.t 6)),
 oT 3 9,
 oT 4 10,
 oT 5 11])
 (oR ([oT 12 3,
 oT 2 12])
 .ret)),
 [.tmp 2]⟩
def xZs : ACode :=
 .seq (.seq (.draw 34 [oF 54 2 4,
 oH 55 1 54,
 oN 56 55,
 oF 57 3 5,
 oH 58 1 57,
 oB 59 .lss 56 58,
 oT 60 59,
 ⟨some 61,.faddr 2 (.t 4),some (60,true)⟩,
 ⟨some 62,.load false 1 (.t 61),some (60,true)⟩,
 ⟨some 63,.len (.t 62),some (60,true)⟩,
 ⟨some 64,.faddr 2 (.t 5),some (60,true)⟩,
 ⟨some 65,.load false 1 (.t 64),some (60,true)⟩,
 ⟨some 66,.bin .lss (.t 63) (.t 65),some (60,true)⟩,
 ⟨some 67,.mov (.t 66),some (60,true)⟩,
 ⟨some 68,.mov (.t 0),some (67,false)⟩,
 ⟨some 69,.nilchk (.t 68),some (67,false)⟩,
 ⟨some 70,.faddr 1 (.t 69),some (67,false)⟩,
 ⟨some 71,.load false 1 (.t 70),some (67,false)⟩,
 ⟨some 72,.mov (.t 0),some (67,false)⟩,
 ⟨some 73,.nilchk (.t 72),some (67,false)⟩,
 ⟨some 74,.faddr 0 (.t 73),some (67,false)⟩,
 ⟨some 75,.load false 1 (.t 74),some (67,false)⟩,
 ⟨some 76,.slen (.t 75),some (67,false)⟩,
 ⟨some 77,.bin .eql (.t 71) (.t 76),some (67,false)⟩,
 ⟨some 78,.pick (.t 67) (.c (.bool true)) (.t 77),some (60,true)⟩,
 ⟨some 79,.mov (.t 78),some (60,true)⟩,
 ⟨some 80,.mov (.t 0),some (79,false)⟩,
 ⟨some 81,.nilchk (.t 80),some (79,false)⟩,
 ⟨some 82,.faddr 0 (.t 81),some (79,false)⟩,
 ⟨some 83,.load false 1 (.t 82),some (79,false)⟩,
 ⟨some 84,.mov (.t 0),some (79,false)⟩,
 ⟨some 85,.nilchk (.t 84),some (79,false)⟩,
 ⟨some 86,.faddr 1 (.t 85),some (79,false)⟩,
 ⟨some 87,.load false 1 (.t 86),some (79,false)⟩,
 ⟨some 88,.sidx (.t 83) (.t 87),some (79,false)⟩,
 ⟨some 89,.bin .neq (.t 88) (.c (.int .u8 41)),some (79,false)⟩,
 ⟨some 90,.pick (.t 79) (.c (.bool true)) (.t 89),some (60,true)⟩,
 oO 91 (.pick (.t 60) (.t 90) (.c (.bool false)))])
 (.cond (.t 91)
 .skip
 (.exit 0)))
 (.block 1 (.drawh [(92,(1,3))] [] [] 2 [oF 92 2 4,
 oH 93 1 92,
 oT 94 0,
 ⟨some 95,.icall (.c (.func 72 [])) [.t 94,(.c (.str ⟨#[48,49,50,51,52,53,54,55,120,121,122]⟩))],none⟩,
 oO 96 (.bslice true [oI 0] 1 1 [(0,.t 95)]),
 oO 97 (.append false 1 8 (.t 93) (.t 96)),
 oF 98 2 4,
 ⟨none,.store 1 (.t 98) (.t 97),none⟩]))
def yBi : ACode := xZs
def xZt : List Nat := [1,2,6,7,8,9,10,11,12,13,14,15,16,17,18,19,20,21,22,23,24,25,26,27,28,29,30,31,32,33,34,35,36,37,38,39,40,41,42,43,44,45,46,47,48,49,50,51,52,53,54,55,56,57,58,59,60,61,62,63,64,65,66,67,68,69,70,71,72,73,74,75,76,77,78,79,80,81,82,83,84,85,86,87,88,89,90,91,92,93,94,95,96,97,98,99,100,101,102,103,104,105,106,107,108,109,110,111,112,113,114,115,116,117,118,119,120,121,122,123,124,125,126,127,128,129,130,131,132,133]
def a41 : AFunc := ⟨134,
 oR ([oM 2 (.c (oI 0))])
 (oR ([oT 6 0,
 ⟨some 7,.icall (.c (.func 70 [])) [.t 6,(.c (.str ⟨#[40,97,98,99,100,101,102,103,104,105,106,107,108,109,110,111,112,113,114,115,116,117,118,119,120,121,122]⟩)),(.c (oI 2))],none⟩,
 oA 8 .eql 7 (.c (.int .u8 40)),
 oT 3 8])
 (.seq (oR ([oT 9 0,
 oO 10 (.nilchk (.t 9)),
 oF 11 3 10,
 oH 12 1 11,
 oA 13 .eql 12 (.c (oI 64))])
 (.cond (.t 13)
 (.stuck)
 .skip))
 (oR ([oT 20 0,
 oO 21 (.nilchk (.t 20)),
 oF 22 3 21,
 oH 23 1 22,
 oA 24 .add 23 (.c (oI 1)),
 oO 25 (.nilchk (.t 20)),
 oF 26 3 25,
 ⟨none,.store 1 (.t 26) (.t 24),none⟩])
 (.seq (oR ([oT 27 3])
 (.cond (.t 27)
 (.region [oT 28 0,
 oO 29 (.nilchk (.t 28)),
 oF 30 1 29,
 oH 31 1 30,
 oA 32 .add 31 (.c (oI 1)),
 oO 33 (.nilchk (.t 28)),
 oF 34 1 33,
 ⟨none,.store 1 (.t 34) (.t 32),none⟩])
 .skip))
 (oR ([oT 35 0,
 oT 36 3,
 oO 37 (.icall (.c (.func 71 [])) [.t 35,.t 36]),
 oO 38 (.build [.int .u8 0,oI 0,oS,oI 0,oI 0,oI 0] [(0,1,.t 37)]),
 oX 4 (.c (.agg [.int .u8 0,oI 0,oS,oI 0,oI 0,oI 0])),
 ⟨none,.store 6 (.t 4) (.t 38),none⟩])
 (oR ([oF 39 0 4,
 oH 40 1 39,
 oO 41 (.call 68 [.t 40]),
 ⟨some 5,.box (.c (.agg [.str ⟨#[]⟩,oI 0,oI 0,oI 0,.bool false,.bool false])),none⟩,
 ⟨none,.store 6 (.t 5) (.t 41),none⟩])
 (.seq (oR ([oF 42 4 5,
 oH 43 1 42])
 (.cond (.t 43)
 (.region [oT 44 0,
 ⟨some 45,.icall (.c (.func 72 [])) [.t 44,(.c (.str ⟨#[97,98,99,100,101,102,103,104]⟩))],none⟩,
 oF 46 1 4,
 ⟨none,.store 1 (.t 46) (.t 45),none⟩])
 .skip))
 (.seq (oR ([oF 47 5 5,
 oH 48 1 47])
 (.cond (.t 48)
 (.region [oT 49 0,
 ⟨some 50,.sslice (.c (.str ⟨#[48,49,50,51,52,53,54,55,120,121,122]⟩)) (some (.c (oI 8))) none,none⟩,
 oO 51 (.icall (.c (.func 72 [])) [.t 49,.t 50]),
 oO 52 (.bin .add (.c (oI 8)) (.t 51)),
 oF 53 3 4,
 ⟨none,.store 1 (.t 53) (.t 52),none⟩])
 .skip))
 (.seq (.block 0 (.loop xZt yBi))
 (.seq (oR ([oF 99 1 5,
 oH 100 1 99,
 oA 101 .gtr 100 (.c (oI 0))])
 (.cond (.t 101)
 (oR ([oT 102 0,
 ⟨some 103,.icall (.c (.func 73 [])) [.t 102,(.c (.str ⟨#[32]⟩))],none⟩])
 (.region [oT 104 0,
 oO 105 (.icall (.c (.func 41 [])) [.t 104]),
 oF 106 4 4,
 ⟨none,.store 1 (.t 106) (.t 105),none⟩]))
 .skip))
 (.seq (oR ([oF 107 1 5,
 oH 108 1 107,
 oA 109 .gtr 108 (.c (oI 1))])
 (.cond (.t 109)
 (oR ([oT 110 0,
 ⟨some 111,.icall (.c (.func 73 [])) [.t 110,(.c (.str ⟨#[32]⟩))],none⟩])
 (.region [oT 112 0,
 oO 113 (.icall (.c (.func 41 [])) [.t 112]),
 oF 114 5 4,
 ⟨none,.store 1 (.t 114) (.t 113),none⟩]))
 .skip))
 (.seq (oR ([oT 115 3])
 (.cond (.t 115)
 (.region [oT 116 0,
 ⟨some 117,.icall (.c (.func 73 [])) [.t 116,(.c (.str ⟨#[41]⟩))],none⟩])
 .skip))
 (.seq (.drawh [(121,(1,6))] [] [] 6 [oT 118 0,
 oT 119 0,
 oO 120 (.nilchk (.t 119)),
 oF 121 2 120,
 oH 122 1 121,
 oG 123 6 4,
 oO 124 (.bslice false [.int .u8 0,oI 0,oS,oI 0,oI 0,oI 0] 6 1 [(0,.t 123)]),
 oO 125 (.append false 6 64 (.t 122) (.t 124)),
 oO 126 (.nilchk (.t 118)),
 oF 127 2 126,
 ⟨none,.store 1 (.t 127) (.t 125),none⟩])
 (oR ([oT 128 0,
 oO 129 (.nilchk (.t 128)),
 oF 130 2 129,
 oH 131 1 130,
 oN 132 131,
 oA 133 .sub 132 (.c (oI 1)),
 oT 2 133])
 .ret)))))))))))))),
 [.tmp 2]⟩
def xJg : ACode :=
 oR ([oB 19 .lss 18 17])
 (.seq (.cond (.t 19)
 .skip
 (.exit 0))
 (.seq (.block 1 (oR ([oO 20 (.iaddr 1 (.t 16) (.t 18)),
 oH 21 1 20,
 oT 9 21])
 (oR ([oT 22 9,
 oA 23 .geq 22 (.c (oI 8)),
 oT 24 23,
 ⟨some 25,.mov (.t 2),some (24,true)⟩,
 ⟨some 26,.mov (.t 9),some (24,true)⟩,
 ⟨some 27,.bin .sub (.t 26) (.c (oI 8)),some (24,true)⟩,
 ⟨some 28,.bin .shr (.t 25) (.t 27),some (24,true)⟩,
 ⟨some 29,.bin .and (.t 28) (.c (.int .u64 1)),some (24,true)⟩,
 ⟨some 30,.bin .eql (.t 29) (.c (.int .u64 0)),some (24,true)⟩,
 oO 31 (.pick (.t 24) (.t 30) (.c (.bool false)))])
 (.cond (.t 31)
 (oR ([oM 6 (.c (.bool true))])
 .ret)
 .skip))))
 (.region [oA 32 .add 18 (.c (oI 1)),
 oT 18 32])))
def xSJ : ACode := xJg
def xJh : List Nat := [1,3,4,5,8,9,10,11,12,13,14,15,19,20,21,22,23,24,25,26,27,28,29,30,31,32,33,34,35,36,37,38,39,40,41,42,43,44,45,46,47,48,49,50,51,52,53,54,55,56,57,58,59,60,61,62,63,64,65]
abbrev xHD (s0 s2 s6 s7 s16 s17 s18 : AV) : List AV := [s0,oE,s2,oE,oE,oE,s6,s7,oE,oE,oE,oE,oE,oE,oE,oE,s16,s17,s18,oE,oE,oE,oE,oE,oE,oE,oE,oE,oE,oE,oE,oE,oE,oE,oE,oE,oE,oE,oE,oE,oE,oE,oE,oE,oE,oE,oE,oE,oE,oE,oE,oE,oE,oE,oE,oE,oE,oE,oE,oE,oE,oE,oE,oE,oE,oE]
theorem xDh (a b c d e f g h i j k l m n o p q r s t u v w x y z A B C D E F G H I J K L M N O P Q R S T U V W X Y Z a0 a1 a2 a3 a4 a5 a6 a7 a8 a9 b0 b1 b2 b3 : AV) : xAu xJh [a,b,c,d,e,f,g,h,i,j,k,l,m,n,o,p,q,r,s,t,u,v,w,x,y,z,A,B,C,D,E,F,G,H,I,J,K,L,M,N,O,P,Q,R,S,T,U,V,W,X,Y,Z,a0,a1,a2,a3,a4,a5,a6,a7,a8,a9,b0,b1,b2,b3] = xHD a c g h q r s := by kernel_rfl
theorem xOV {prog : Nat → Option AFunc} (s0 s2 s6 s7 s16 s17 s18 : AV) (H : Heap) : (lim prog).loop xJh xSJ ⟨xHD s0 s2 s6 s7 s16 s17 s18,H⟩ = xA9 (lim prog) xJh xSJ (run (lim prog) xJg ⟨xHD s0 s2 s6 s7 s16 s17 s18,H⟩) := xAh _ _ _ _ (by kernel_rfl)
def a42 : AFunc := ⟨66,
 oR ([oM 6 (.c (.bool false))])
 (oR ([oT 11 0,
 oT 12 1,
 oO 13 (.iaddr 6 (.t 11) (.t 12)),
 oG 14 6 13,
 oX 7 (.c (.agg [.int .u8 0,oI 0,oS,oI 0,oI 0,oI 0])),
 ⟨none,.store 6 (.t 7) (.t 14),none⟩])
 (.seq (oR ([oF 15 2 7,
 oH 16 1 15,
 oN 17 16,
 oM 18 (.c (oI 0))])
 (.block 0 (.loop xJh xSJ)))
 (.seq (oR ([oF 33 0 7,
 oH 34 1 33,
 oA 35 .eql 34 (.c (.int .u8 7))])
 (.cond (.t 35)
 (.region [oT 36 2,
 oF 37 3 7,
 oH 38 1 37,
 oA 39 .sub 38 (.c (oI 8)),
 oO 40 (.bin .shl (.c (.int .u64 1)) (.t 39)),
 oB 41 .or 36 40,
 oT 2 41])
 .skip))
 (oR ([oF 42 0 7,
 oH 43 1 42,
 oO 44 (.call 68 [.t 43]),
 oO 45 (.field false 1 1 (.t 44)),
 oT 10 45])
 (oR ([oT 46 10,
 oA 47 .gtr 46 (.c (oI 0)),
 oT 48 47,
 ⟨some 49,.mov (.t 0),some (48,true)⟩,
 ⟨some 50,.faddr 4 (.t 7),some (48,true)⟩,
 ⟨some 51,.load false 1 (.t 50),some (48,true)⟩,
 ⟨some 52,.mov (.t 2),some (48,true)⟩,
 ⟨some 53,.call 42 [.t 49,.t 51,.t 52],some (48,true)⟩,
 oO 54 (.pick (.t 48) (.t 53) (.c (.bool false))),
 oT 55 54,
 ⟨some 56,.mov (.t 10),some (55,false)⟩,
 ⟨some 57,.bin .gtr (.t 56) (.c (oI 1)),some (55,false)⟩,
 ⟨some 58,.mov (.t 57),some (55,false)⟩,
 ⟨some 59,.mov (.t 0),some (58,true)⟩,
 ⟨some 60,.faddr 5 (.t 7),some (58,true)⟩,
 ⟨some 61,.load false 1 (.t 60),some (58,true)⟩,
 ⟨some 62,.mov (.t 2),some (58,true)⟩,
 ⟨some 63,.call 42 [.t 59,.t 61,.t 62],some (58,true)⟩,
 ⟨some 64,.pick (.t 58) (.t 63) (.c (.bool false)),some (55,false)⟩,
 oO 65 (.pick (.t 55) (.c (.bool true)) (.t 64)),
 oT 6 65])
 .ret))))),
 [.tmp 6]⟩
def a46 : AFunc := ⟨23,
 oR ([oM 6 (.c (.bool false))])
 (oR ([oT 10 0,
 oO 11 (.call 39 [.t 10]),
 oT 12 1,
 oO 13 (.call 35 [.t 11,.t 12]),
 oT 9 13,
 oO 14 (.ext 0 (.t 9)),
 oO 15 (.ext 1 (.t 9)),
 oT 7 14,
 oT 8 15])
 (oR ([oT 16 7,
 oT 17 2,
 oO 18 (.call 36 [.t 16,.t 17]),
 oT 19 18,
 ⟨some 20,.mov (.t 8),some (19,true)⟩,
 ⟨some 21,.bin .eql (.t 20) (.c (oI 0)),some (19,true)⟩,
 oO 22 (.pick (.t 19) (.t 21) (.c (.bool false))),
 oT 6 22])
 .ret)),
 [.tmp 6]⟩
def a47 : AFunc := ⟨8,
 oR ([oX 4 (.c (.agg [oI 0,oS]))])
 (oR ([oT 5 0,
 oT 6 1,
 oO 7 (.build [oI 0,oS] [(0,1,.t 5),(1,1,.t 6)]),
 ⟨none,.store 2 (.t 4) (.t 7),none⟩])
 .ret),
 [.cell 4 true 2]⟩
def a48 : AFunc := ⟨29,
 oR ([oM 6 (.c (.bool false))])
 (oR ([oT 11 0,
 oO 12 (.call 12 [.t 11]),
 oT 10 12,
 oO 13 (.ext 0 (.t 10)),
 oO 14 (.ext 1 (.t 10)),
 oO 15 (.ext 2 (.t 10)),
 oT 7 13,
 oT 8 14,
 oT 9 15])
 (oR ([oT 16 7,
 oN 17 16,
 oA 18 .eql 17 (.c (oI 0)),
 oT 19 18,
 ⟨some 20,.mov (.t 8),some (19,true)⟩,
 ⟨some 21,.mov (.t 1),some (19,true)⟩,
 ⟨some 22,.bin .eql (.t 20) (.t 21),some (19,true)⟩,
 oO 23 (.pick (.t 19) (.t 22) (.c (.bool false))),
 oT 24 23,
 ⟨some 25,.mov (.t 9),some (24,true)⟩,
 ⟨some 26,.mov (.t 2),some (24,true)⟩,
 ⟨some 27,.bin .eql (.t 25) (.t 26),some (24,true)⟩,
 oO 28 (.pick (.t 24) (.t 27) (.c (.bool false))),
 oT 6 28])
 .ret)),
 [.tmp 6]⟩
def a49 : AFunc := ⟨5,
 oR ([oM 2 (.c (oS))])
 (oR ([oT 3 0,
 oO 4 (.append false 1 8 (.c (oS)) (.t 3)),
 oT 2 4])
 .ret),
 [.tmp 2]⟩
def xOW : ACode :=
 oR ([oB 11 .lss 10 9])
 (.seq (.cond (.t 11)
 .skip
 (.exit 0))
 (.seq (.block 1 (oR ([oT 12 10,
 oO 13 (.iaddr 6 (.t 8) (.t 10)),
 oG 14 6 13,
 oX 5 (.c (.agg [.int .u8 0,oI 0,oS,oI 0,oI 0,oI 0])),
 oT 4 12,
 ⟨none,.store 6 (.t 5) (.t 14),none⟩])
 (.region [oT 15 3,
 oT 16 4,
 oF 17 2 5,
 oH 18 1 17,
 oO 19 (.call 83 [.t 18]),
 oO 20 (.iaddr 6 (.t 15) (.t 16)),
 oF 21 2 20,
 ⟨none,.store 1 (.t 21) (.t 19),none⟩])))
 (.region [oA 22 .add 10 (.c (oI 1)),
 oT 10 22])))
def xSK : ACode := xOW
def xJi : List Nat := [0,1,2,4,5,6,7,11,12,13,14,15,16,17,18,19,20,21,22,23]
abbrev xL5 (s3 s8 s9 s10 : AV) : List AV := [oE,oE,oE,s3,oE,oE,oE,oE,s8,s9,s10,oE,oE,oE,oE,oE,oE,oE,oE,oE,oE,oE,oE,oE]
theorem xSL (a b c d e f g h i j k l m n o p q r s t u v w x : AV) : xAu xJi [a,b,c,d,e,f,g,h,i,j,k,l,m,n,o,p,q,r,s,t,u,v,w,x] = xL5 d i j k := by kernel_rfl
theorem xV4 {prog : Nat → Option AFunc} (s3 s8 s9 s10 : AV) (H : Heap) : (lim prog).loop xJi xSK ⟨xL5 s3 s8 s9 s10,H⟩ = xA9 (lim prog) xJi xSK (run (lim prog) xOW ⟨xL5 s3 s8 s9 s10,H⟩) := xAh _ _ _ _ (by kernel_rfl)
def a50 : AFunc := ⟨24,
 oR ([oM 2 (.c (oS))])
 (oR ([oT 6 0,
 oO 7 (.ocall 82 [.t 6]),
 oT 3 7])
 (.seq (oR ([oT 8 3,
 oN 9 8,
 oM 10 (.c (oI 0))])
 (.block 0 (.loop xJi xSK)))
 (oR ([oT 23 3,
 oT 2 23])
 .ret))),
 [.tmp 2]⟩
def a51 : AFunc := ⟨13,
 oR ([oM 2 (.c (.bool false))])
 (oR ([oT 3 0,
 oA 4 .eql 3 (.c (.int .u8 8)),
 oT 5 4,
 ⟨some 6,.mov (.t 0),some (5,false)⟩,
 ⟨some 7,.bin .eql (.t 6) (.c (.int .u8 9)),some (5,false)⟩,
 oO 8 (.pick (.t 5) (.c (.bool true)) (.t 7)),
 oT 9 8,
 ⟨some 10,.mov (.t 0),some (9,false)⟩,
 ⟨some 11,.bin .eql (.t 10) (.c (.int .u8 10)),some (9,false)⟩,
 oO 12 (.pick (.t 9) (.c (.bool true)) (.t 11)),
 oT 2 12])
 .ret),
 [.tmp 2]⟩
def a54 : AFunc := ⟨18,
 oR ([oX 1 (.t 0),
 oM 2 (.c (.bool false))])
 (oR ([oF 3 0 1,
 oH 4 1 3,
 oO 5 (.bslice true [oI 0] 1 1 [(0,.t 4)]),
 oO 6 (.call 84 [(.c (oI 0)),(.c (oI 7)),.t 5]),
 oT 7 6,
 ⟨some 8,.faddr 1 (.t 1),some (7,true)⟩,
 ⟨some 9,.load false 1 (.t 8),some (7,true)⟩,
 ⟨some 10,.len (.t 9),some (7,true)⟩,
 ⟨some 11,.bin .leq (.t 10) (.c (oI 2)),some (7,true)⟩,
 oO 12 (.pick (.t 7) (.t 11) (.c (.bool false))),
 oT 13 12,
 ⟨some 14,.faddr 1 (.t 1),some (13,true)⟩,
 ⟨some 15,.load false 1 (.t 14),some (13,true)⟩,
 ⟨some 16,.call 84 [(.c (oI 0)),(.c (oI 7)),.t 15],some (13,true)⟩,
 oO 17 (.pick (.t 13) (.t 16) (.c (.bool false))),
 oT 2 17])
 .ret),
 [.tmp 2]⟩
def a55 : AFunc := ⟨3,
 oR ([oM 0 (.c (.nilm))])
 (oR ([oO 1 (.mkmap),
 ⟨none,.mupd [0] (.t 1) (.c (.int .u8 1)) (.c (.func 85 [])),none⟩,
 ⟨none,.mupd [0] (.t 1) (.c (.int .u8 2)) (.c (.func 86 [])),none⟩,
 ⟨none,.mupd [0] (.t 1) (.c (.int .u8 3)) (.c (.func 87 [])),none⟩,
 ⟨none,.mupd [0] (.t 1) (.c (.int .u8 4)) (.c (.func 88 [])),none⟩,
 ⟨none,.mupd [0] (.t 1) (.c (.int .u8 5)) (.c (.func 89 [])),none⟩,
 ⟨none,.mupd [0] (.t 1) (.c (.int .u8 6)) (.c (.func 90 [])),none⟩,
 ⟨none,.mupd [0] (.t 1) (.c (.int .u8 7)) (.c (.func 91 [])),none⟩,
 ⟨none,.mupd [0] (.t 1) (.c (.int .u8 8)) (.c (.func 92 [])),none⟩,
 ⟨none,.mupd [0] (.t 1) (.c (.int .u8 9)) (.c (.func 93 [])),none⟩,
 ⟨none,.mupd [0] (.t 1) (.c (.int .u8 10)) (.c (.func 94 [])),none⟩,
 oT 2 1,
 oT 0 2])
 .ret),
 [.tmp 0]⟩
def xOX : ACode :=
 oR ([oB 8 .lss 7 6])
 (.seq (.cond (.t 8)
 .skip
 (.exit 0))
 (.seq (.block 1 (oR ([oT 9 7,
 oO 10 (.iaddr 1 (.t 5) (.t 7)),
 oH 11 1 10,
 oT 3 9,
 oT 4 11])
 (.draw 6 [oT 12 3,
 oA 13 .quo 12 (.c (oI 8)),
 oO 14 (.arrat 1 8 (.t 2) (.t 13)),
 oH 15 1 14,
 oT 16 4,
 oO 17 (.conv .u64 (.t 16)),
 oT 18 3,
 oA 19 .rem 18 (.c (oI 8)),
 oO 20 (.bin .mul (.c (oI 8)) (.t 19)),
 oB 21 .shl 17 20,
 oB 22 .or 15 21,
 oO 23 (.arrat 1 8 (.t 2) (.t 13)),
 ⟨none,.store 1 (.t 23) (.t 22),none⟩])))
 (.region [oA 24 .add 7 (.c (oI 1)),
 oT 7 24])))
def xSM : ACode := xOX
def xJj : List Nat := [0,1,3,4,8,9,10,11,12,13,14,15,16,17,18,19,20,21,22,23,24,25]
abbrev xJk (s2 s5 s6 s7 : AV) : List AV := [oE,oE,s2,oE,oE,s5,s6,s7,oE,oE,oE,oE,oE,oE,oE,oE,oE,oE,oE,oE,oE,oE,oE,oE,oE,oE]
theorem xSN (a b c d e f g h i j k l m n o p q r s t u v w x y z : AV) : xAu xJj [a,b,c,d,e,f,g,h,i,j,k,l,m,n,o,p,q,r,s,t,u,v,w,x,y,z] = xJk c f g h := by kernel_rfl
theorem xV5 {prog : Nat → Option AFunc} (s2 s5 s6 s7 : AV) (H : Heap) : (lim prog).loop xJj xSM ⟨xJk s2 s5 s6 s7,H⟩ = xA9 (lim prog) xJj xSM (run (lim prog) xOX ⟨xJk s2 s5 s6 s7,H⟩) := xAh _ _ _ _ (by kernel_rfl)
def a56 : AFunc := ⟨26,
 oR ([oX 2 (.c (.agg [.int .u64 0,.int .u64 0,.int .u64 0,.int .u64 0,.int .u64 0,.int .u64 0,.int .u64 0,.int .u64 0]))])
 (.seq (oR ([oT 5 0,
 oN 6 5,
 oM 7 (.c (oI 0))])
 (.block 0 (.loop xJj xSM)))
 (oR ([oG 25 8 2,
 ⟨none,.store 8 (.t 2) (.t 25),none⟩])
 .ret)),
 [.cell 2 true 8]⟩
def xOY : ACode :=
 oR ([oB 8 .lss 7 6])
 (.seq (.cond (.t 8)
 .skip
 (.exit 0))
 (.seq (.block 1 (oR ([oT 9 7,
 oT 4 9])
 (.region [oT 10 0,
 oT 11 4,
 oT 12 4,
 oA 13 .quo 12 (.c (oI 8)),
 oO 14 (.arrat 1 8 (.t 3) (.t 13)),
 oH 15 1 14,
 oT 16 4,
 oA 17 .rem 16 (.c (oI 8)),
 oO 18 (.bin .mul (.c (oI 8)) (.t 17)),
 oB 19 .shr 15 18,
 oO 20 (.conv .u8 (.t 19)),
 oO 21 (.iaddr 1 (.t 10) (.t 11)),
 ⟨none,.store 1 (.t 21) (.t 20),none⟩])))
 (.region [oA 22 .add 7 (.c (oI 1)),
 oT 7 22])))
def xSO : ACode := xOY
def xJl : List Nat := [1,2,4,5,8,9,10,11,12,13,14,15,16,17,18,19,20,21,22]
abbrev xJm (s0 s3 s6 s7 : AV) : List AV := [s0,oE,oE,s3,oE,oE,s6,s7,oE,oE,oE,oE,oE,oE,oE,oE,oE,oE,oE,oE,oE,oE,oE]
theorem xSP (a b c d e f g h i j k l m n o p q r s t u v w : AV) : xAu xJl [a,b,c,d,e,f,g,h,i,j,k,l,m,n,o,p,q,r,s,t,u,v,w] = xJm a d g h := by kernel_rfl
theorem xV6 {prog : Nat → Option AFunc} (s0 s3 s6 s7 : AV) (H : Heap) : (lim prog).loop xJl xSO ⟨xJm s0 s3 s6 s7,H⟩ = xA9 (lim prog) xJl xSO (run (lim prog) xOY ⟨xJm s0 s3 s6 s7,H⟩) := xAh _ _ _ _ (by kernel_rfl)
def a57 : AFunc := ⟨23,
 oR ([oX 3 (.t 1)])
 (oR ([oT 5 0,
 oN 6 5,
 oM 7 (.c (oI 0))])
 (.block 0 (.loop xJl xSO))),
 []⟩
def a60 : AFunc := ⟨8,
 oR ([oM 2 (.c (oS))])
 (.seq (oR ([oT 3 0,
 oO 4 (.isnil false (.t 3))])
 (.cond (.t 4)
 (oR ([oM 2 (.c (oS))])
 .ret)
 .skip))
 (oR ([oO 5 (.bslice false [.int .u8 0] 1 0 []),
 oT 6 0,
 oO 7 (.append false 1 1 (.t 5) (.t 6)),
 oT 2 7])
 .ret)),
 [.tmp 2]⟩
def a62 : AFunc := ⟨10,
 oR ([oM 4 (.c (.bool false))])
 (oR ([oT 5 0,
 oO 6 (.bstr (.t 5)),
 oT 7 1,
 oO 8 (.bstr (.t 7)),
 oO 9 (.sbeq false (.t 6) (.t 8)),
 oT 4 9])
 .ret),
 [.tmp 4]⟩
def xJn : ACode :=
 oR ([oB 26 .lss 25 24])
 (.seq (.cond (.t 26)
 .skip
 (.exit 2))
 (.seq (.block 3 (.seq (oR ([oT 27 7,
 oA 28 .eql 27 (.c (oI 0)),
 oT 29 28,
 ⟨some 30,.mov (.t 3),some (29,false)⟩,
 ⟨some 31,.mov (.t 7),some (29,false)⟩,
 ⟨some 32,.bin .sub (.t 31) (.c (oI 1)),some (29,false)⟩,
 ⟨some 33,.iaddr 1 (.t 30) (.t 32),some (29,false)⟩,
 ⟨some 34,.load false 1 (.t 33),some (29,false)⟩,
 ⟨some 35,.bin .eql (.t 34) (.c (oI 0)),some (29,false)⟩,
 oO 36 (.pick (.t 29) (.c (.bool true)) (.t 35))])
 (.cond (.t 36)
 (oR ([oM 6 (.c (oI 0))])
 (.exit 2))
 .skip))
 (oR ([oT 37 7,
 oA 38 .sub 37 (.c (oI 1)),
 oT 39 8,
 oT 8 38,
 oT 9 39])
 (oR ([oT 40 6,
 oT 41 3,
 oT 42 7,
 oA 43 .sub 42 (.c (oI 1)),
 oO 44 (.iaddr 1 (.t 41) (.t 43)),
 oH 45 1 44,
 oB 46 .add 40 45,
 oT 6 46])
 (.region [oT 47 7,
 oT 48 3,
 oT 49 7,
 oA 50 .sub 49 (.c (oI 1)),
 oO 51 (.iaddr 1 (.t 48) (.t 50)),
 oH 52 1 51,
 oB 53 .sub 47 52,
 oT 7 53])))))
 (.region [oA 54 .add 25 (.c (oI 1)),
 oT 25 54])))
def xH4 : ACode := xJn
def xDN : List Nat := [0,1,2,10,11,12,16,17,18,19,20,21,22,23,26,27,28,29,30,31,32,33,34,35,36,37,38,39,40,41,42,43,44,45,46,47,48,49,50,51,52,53,54,55,56,57,58,59,60,61,62,63,64,65,66,67,68,69,70,71,72,73,74]
abbrev xL6 (s3 s4 s5 s6 s7 s8 s9 s13 s14 s15 s24 s25 : AV) : List AV := [oE,oE,oE,s3,s4,s5,s6,s7,s8,s9,oE,oE,oE,s13,s14,s15,oE,oE,oE,oE,oE,oE,oE,oE,s24,s25,oE,oE,oE,oE,oE,oE,oE,oE,oE,oE,oE,oE,oE,oE,oE,oE,oE,oE,oE,oE,oE,oE,oE,oE,oE,oE,oE,oE,oE,oE,oE,oE,oE,oE,oE,oE,oE,oE,oE,oE,oE,oE,oE,oE,oE,oE,oE,oE,oE]
theorem xGb (a b c d e f g h i j k l m n o p q r s t u v w x y z A B C D E F G H I J K L M N O P Q R S T U V W X Y Z a0 a1 a2 a3 a4 a5 a6 a7 a8 a9 b0 b1 b2 b3 b4 b5 b6 b7 b8 b9 c0 c1 c2 : AV) : xAu xDN [a,b,c,d,e,f,g,h,i,j,k,l,m,n,o,p,q,r,s,t,u,v,w,x,y,z,A,B,C,D,E,F,G,H,I,J,K,L,M,N,O,P,Q,R,S,T,U,V,W,X,Y,Z,a0,a1,a2,a3,a4,a5,a6,a7,a8,a9,b0,b1,b2,b3,b4,b5,b6,b7,b8,b9,c0,c1,c2] = xL6 d e f g h i j n o p y z := by kernel_rfl
theorem xOZ {prog : Nat → Option AFunc} (s3 s4 s5 s6 s7 s8 s9 s13 s14 s15 s24 s25 : AV) (H : Heap) : (lim prog).loop xDN xH4 ⟨xL6 s3 s4 s5 s6 s7 s8 s9 s13 s14 s15 s24 s25,H⟩ = xA9 (lim prog) xDN xH4 (run (lim prog) xJn ⟨xL6 s3 s4 s5 s6 s7 s8 s9 s13 s14 s15 s24 s25,H⟩) := xAh _ _ _ _ (by kernel_rfl)
def xHE : ACode :=
 oR ([oB 16 .lss 15 14])
 (.seq (.cond (.t 16)
 .skip
 (.exit 0))
 (.seq (.block 1 (oR ([oT 17 15,
 oO 18 (.iaddr 6 (.t 13) (.t 15)),
 oG 19 6 18,
 oX 5 (.c (.agg [.int .u8 0,oI 0,oS,oI 0,oI 0,oI 0])),
 oT 4 17,
 ⟨none,.store 6 (.t 5) (.t 19),none⟩])
 (oR ([oT 20 4,
 oM 6 (.c (oI 1)),
 oT 7 20,
 oM 8 (.c (oI 0)),
 oM 9 (.c (oI 0))])
 (.seq (oR ([oF 21 0 5,
 oH 22 1 21,
 oO 23 (.call 68 [.t 22]),
 oO 24 (.field false 1 1 (.t 23)),
 oM 25 (.c (oI 0))])
 (.block 2 (.loop xDN xH4)))
 (oR ([oT 55 6,
 oA 56 .gtr 55 (.c (oI 0)),
 oT 57 56,
 ⟨some 58,.faddr 4 (.t 5),some (57,true)⟩,
 ⟨some 59,.load false 1 (.t 58),some (57,true)⟩,
 ⟨some 60,.mov (.t 8),some (57,true)⟩,
 ⟨some 61,.bin .eql (.t 59) (.t 60),some (57,true)⟩,
 oO 62 (.pick (.t 57) (.t 61) (.c (.bool false))),
 oT 63 62,
 ⟨some 64,.faddr 5 (.t 5),some (63,true)⟩,
 ⟨some 65,.load false 1 (.t 64),some (63,true)⟩,
 ⟨some 66,.mov (.t 9),some (63,true)⟩,
 ⟨some 67,.bin .eql (.t 65) (.t 66),some (63,true)⟩,
 oO 68 (.pick (.t 63) (.t 67) (.c (.bool false)))])
 (.cond (.t 68)
 (.region [oT 69 3,
 oT 70 4,
 oT 71 6,
 oO 72 (.iaddr 1 (.t 69) (.t 70)),
 ⟨none,.store 1 (.t 72) (.t 71),none⟩])
 .skip))))))
 (.region [oA 73 .add 15 (.c (oI 1)),
 oT 15 73])))
def xNf : ACode := xHE
def xGc : List Nat := [0,1,2,4,5,6,7,8,9,10,11,12,16,17,18,19,20,21,22,23,24,25,26,27,28,29,30,31,32,33,34,35,36,37,38,39,40,41,42,43,44,45,46,47,48,49,50,51,52,53,54,55,56,57,58,59,60,61,62,63,64,65,66,67,68,69,70,71,72,73,74]
abbrev xL7 (s3 s13 s14 s15 : AV) : List AV := [oE,oE,oE,s3,oE,oE,oE,oE,oE,oE,oE,oE,oE,s13,s14,s15,oE,oE,oE,oE,oE,oE,oE,oE,oE,oE,oE,oE,oE,oE,oE,oE,oE,oE,oE,oE,oE,oE,oE,oE,oE,oE,oE,oE,oE,oE,oE,oE,oE,oE,oE,oE,oE,oE,oE,oE,oE,oE,oE,oE,oE,oE,oE,oE,oE,oE,oE,oE,oE,oE,oE,oE,oE,oE,oE]
theorem xJo (a b c d e f g h i j k l m n o p q r s t u v w x y z A B C D E F G H I J K L M N O P Q R S T U V W X Y Z a0 a1 a2 a3 a4 a5 a6 a7 a8 a9 b0 b1 b2 b3 b4 b5 b6 b7 b8 b9 c0 c1 c2 : AV) : xAu xGc [a,b,c,d,e,f,g,h,i,j,k,l,m,n,o,p,q,r,s,t,u,v,w,x,y,z,A,B,C,D,E,F,G,H,I,J,K,L,M,N,O,P,Q,R,S,T,U,V,W,X,Y,Z,a0,a1,a2,a3,a4,a5,a6,a7,a8,a9,b0,b1,b2,b3,b4,b5,b6,b7,b8,b9,c0,c1,c2] = xL7 d n o p := by kernel_rfl
theorem xL8 {prog : Nat → Option AFunc} (s3 s13 s14 s15 : AV) (H : Heap) : (lim prog).loop xGc xNf ⟨xL7 s3 s13 s14 s15,H⟩ = xA9 (lim prog) xGc xNf (run (lim prog) xHE ⟨xL7 s3 s13 s14 s15,H⟩) := xAh _ _ _ _ (by kernel_rfl)
def a66 : AFunc := ⟨75,
 oR ([oM 2 (.c (oS))])
 (oR ([oT 10 0,
 oN 11 10,
 oO 12 (.mkslice false [oI 0] 8 (.t 11) (.t 11)),
 oT 3 12])
 (.seq (oR ([oT 13 0,
 oN 14 13,
 oM 15 (.c (oI 0))])
 (.block 0 (.loop xGc xNf)))
 (oR ([oT 74 3,
 oT 2 74])
 .ret))),
 [.tmp 2]⟩
def a67 : AFunc := ⟨75,
 oR ([oX 2 (.t 0),
 oM 4 (.c (oI 0))])
 (oR ([oF 6 0 2,
 oH 7 1 6,
 oO 8 (.call 68 [.t 7]),
 ⟨some 5,.box (.c (.agg [.str ⟨#[]⟩,oI 0,oI 0,oI 0,.bool false,.bool false])),none⟩,
 ⟨none,.store 6 (.t 5) (.t 8),none⟩])
 (.seq (.block 0 (oR ([oF 10 0 5,
 oH 11 1 10,
 ⟨some 12,.sbeq false (.t 11) (.c (.str ⟨#[]⟩)),none⟩,
 oT 9 12])
 (.cond (.t 9)
 (oR ([oM 4 (.c (oI 6))])
 .ret)
 (oR ([oF 14 4 5,
 oH 15 1 14,
 oO 16 (.un .not (.t 15)),
 oT 17 16,
 ⟨some 18,.faddr 1 (.t 2),some (17,true)⟩,
 ⟨some 19,.load false 1 (.t 18),some (17,true)⟩,
 ⟨some 20,.bin .neq (.t 19) (.c (oI 0)),some (17,true)⟩,
 oO 21 (.pick (.t 17) (.t 20) (.c (.bool false))),
 oT 22 21,
 ⟨some 23,.faddr 5 (.t 5),some (22,false)⟩,
 ⟨some 24,.load false 1 (.t 23),some (22,false)⟩,
 ⟨some 25,.un .not (.t 24),some (22,false)⟩,
 ⟨some 26,.mov (.t 25),some (22,false)⟩,
 ⟨some 27,.faddr 3 (.t 2),some (26,true)⟩,
 ⟨some 28,.load false 1 (.t 27),some (26,true)⟩,
 ⟨some 29,.bin .neq (.t 28) (.c (oI 0)),some (26,true)⟩,
 ⟨some 30,.pick (.t 26) (.t 29) (.c (.bool false)),some (22,false)⟩,
 oO 31 (.pick (.t 22) (.c (.bool true)) (.t 30)),
 oT 32 31,
 ⟨some 33,.mov (.t 1),some (32,false)⟩,
 ⟨some 34,.bin .eql (.t 33) (.c (oI 0)),some (32,false)⟩,
 oO 35 (.pick (.t 32) (.c (.bool true)) (.t 34)),
 oT 36 35,
 ⟨some 37,.faddr 2 (.t 2),some (36,false)⟩,
 ⟨some 38,.load false 1 (.t 37),some (36,false)⟩,
 ⟨some 39,.len (.t 38),some (36,false)⟩,
 ⟨some 40,.faddr 2 (.t 5),some (36,false)⟩,
 ⟨some 41,.load false 1 (.t 40),some (36,false)⟩,
 ⟨some 42,.bin .lss (.t 39) (.t 41),some (36,false)⟩,
 oO 43 (.pick (.t 36) (.c (.bool true)) (.t 42)),
 oT 44 43,
 ⟨some 45,.faddr 2 (.t 2),some (44,false)⟩,
 ⟨some 46,.load false 1 (.t 45),some (44,false)⟩,
 ⟨some 47,.len (.t 46),some (44,false)⟩,
 ⟨some 48,.faddr 3 (.t 5),some (44,false)⟩,
 ⟨some 49,.load false 1 (.t 48),some (44,false)⟩,
 ⟨some 50,.bin .gtr (.t 47) (.t 49),some (44,false)⟩,
 oO 51 (.pick (.t 44) (.c (.bool true)) (.t 50)),
 oT 13 51])
 (.cond (.t 13)
 (oR ([oM 4 (.c (oI 2))])
 .ret)
 (oR ([oF 53 1 2,
 oH 54 1 53,
 oO 55 (.bslice true [oI 0] 1 1 [(0,.t 54)]),
 oO 56 (.call 84 [(.c (oI 0)),(.c (oI 7)),.t 55]),
 oO 57 (.un .not (.t 56)),
 oT 58 57,
 ⟨some 59,.faddr 5 (.t 5),some (58,false)⟩,
 ⟨some 60,.load false 1 (.t 59),some (58,false)⟩,
 ⟨some 61,.mov (.t 60),some (58,false)⟩,
 ⟨some 62,.faddr 3 (.t 2),some (61,true)⟩,
 ⟨some 63,.load false 1 (.t 62),some (61,true)⟩,
 ⟨some 64,.bslice true [oI 0] 1 1 [(0,.t 63)],some (61,true)⟩,
 ⟨some 65,.call 84 [(.c (oI 8)),(.c (oI 10)),.t 64],some (61,true)⟩,
 ⟨some 66,.un .not (.t 65),some (61,true)⟩,
 ⟨some 67,.pick (.t 61) (.t 66) (.c (.bool false)),some (58,false)⟩,
 oO 68 (.pick (.t 58) (.c (.bool true)) (.t 67)),
 oT 69 68,
 ⟨some 70,.faddr 2 (.t 2),some (69,false)⟩,
 ⟨some 71,.load false 1 (.t 70),some (69,false)⟩,
 ⟨some 72,.call 84 [(.c (oI 0)),(.c (oI 10)),.t 71],some (69,false)⟩,
 ⟨some 73,.un .not (.t 72),some (69,false)⟩,
 oO 74 (.pick (.t 69) (.c (.bool true)) (.t 73)),
 oT 52 74])
 (.cond (.t 52)
 (oR ([oM 4 (.c (oI 1))])
 .ret)
 .skip)))))))
 (oR ([oM 4 (.c (oI 0))])
 .ret))),
 [.tmp 4]⟩
def xE2 : ACode :=
 oR ([oA 26 .lss 25 (.c (oI 6))])
 (.seq (.cond (.t 26)
 .skip
 (.exit 1))
 (.seq (.block 2 (oR ([oO 27 (.idx true 3 6 (.t 24) (.t 25)),
 ⟨some 4,.box (.c (.agg [.int .u8 0,.str ⟨#[]⟩,oI 0])),none⟩,
 ⟨none,.store 3 (.t 4) (.t 27),none⟩])
 (oR ([oF 28 0 4,
 oH 29 1 28,
 oT 30 0,
 oB 31 .eql 29 30])
 (.cond (.t 31)
 (oR ([oF 32 1 4,
 oH 33 1 32,
 oF 34 2 4,
 oH 35 1 34,
 ⟨some 36,.build [.str ⟨#[]⟩,oI 0,oI 0,oI 0,.bool false,.bool false] [(0,1,.t 33),(1,1,.t 35)],none⟩,
 ⟨none,.store 6 (.t 2) (.t 36),none⟩])
 .ret)
 .skip))))
 (.region [oA 37 .add 25 (.c (oI 1)),
 oT 25 37])))
def xXs : ACode := xE2
def xO0 : List Nat := [1,3,4,5,6,7,8,9,10,11,12,13,14,15,16,17,18,19,20,21,22,23,26,27,28,29,30,31,32,33,34,35,36,37,38]
abbrev xSQ (s0 s2 s24 s25 : AV) : List AV := [s0,oE,s2,oE,oE,oE,oE,oE,oE,oE,oE,oE,oE,oE,oE,oE,oE,oE,oE,oE,oE,oE,oE,oE,s24,s25,oE,oE,oE,oE,oE,oE,oE,oE,oE,oE,oE,oE,oE]
theorem xHF (a b c d e f g h i j k l m n o p q r s t u v w x y z A B C D E F G H I J K L M : AV) : xAu xO0 [a,b,c,d,e,f,g,h,i,j,k,l,m,n,o,p,q,r,s,t,u,v,w,x,y,z,A,B,C,D,E,F,G,H,I,J,K,L,M] = xSQ a c y z := by kernel_rfl
theorem xHG {prog : Nat → Option AFunc} (s0 s2 s24 s25 : AV) (H : Heap) : (lim prog).loop xO0 xXs ⟨xSQ s0 s2 s24 s25,H⟩ = xA9 (lim prog) xO0 xXs (run (lim prog) xE2 ⟨xSQ s0 s2 s24 s25,H⟩) := xAh _ _ _ _ (by kernel_rfl)
def a68 : AFunc := ⟨39,
 oR ([⟨some 2,.box (.c (.agg [.str ⟨#[]⟩,oI 0,oI 0,oI 0,.bool false,.bool false])),none⟩])
 (.seq (oR ([oT 5 0])
 (.block 0 (oR ([oA 7 .eql 5 (.c (.int .u8 1)),
 oT 6 7])
 (.cond (.t 6)
 (oR ([⟨some 8,.build [.str ⟨#[]⟩,oI 0,oI 0,oI 0,.bool false,.bool false] [(0,1,(.c (.str ⟨#[116,114,117,101]⟩)))],none⟩,
 ⟨none,.store 6 (.t 2) (.t 8),none⟩])
 .ret)
 (oR ([oA 10 .eql 5 (.c (.int .u8 2)),
 oT 9 10])
 (.cond (.t 9)
 (oR ([⟨some 11,.build [.str ⟨#[]⟩,oI 0,oI 0,oI 0,.bool false,.bool false] [(0,1,(.c (.str ⟨#[97,116]⟩))),(3,1,(.c (oI 2))),(4,1,(.c (.bool true)))],none⟩,
 ⟨none,.store 6 (.t 2) (.t 11),none⟩])
 .ret)
 (oR ([oA 13 .eql 5 (.c (.int .u8 3)),
 oT 12 13])
 (.cond (.t 12)
 (oR ([⟨some 14,.build [.str ⟨#[]⟩,oI 0,oI 0,oI 0,.bool false,.bool false] [(0,1,(.c (.str ⟨#[61]⟩))),(2,1,(.c (oI 2))),(3,1,(.c (oI 2)))],none⟩,
 ⟨none,.store 6 (.t 2) (.t 14),none⟩])
 .ret)
 (oR ([oA 16 .eql 5 (.c (.int .u8 7)),
 oT 15 16])
 (.cond (.t 15)
 (oR ([⟨some 17,.build [.str ⟨#[]⟩,oI 0,oI 0,oI 0,.bool false,.bool false] [(0,1,(.c (.str ⟨#[101,120,105,115,116,115]⟩))),(1,1,(.c (oI 1))),(5,1,(.c (.bool true)))],none⟩,
 ⟨none,.store 6 (.t 2) (.t 17),none⟩])
 .ret)
 .skip))))))))))
 (.seq (oR ([⟨some 18,.build [.int .u8 0,.str ⟨#[]⟩,oI 0] [(0,1,(.c (.int .u8 4))),(1,1,(.c (.str ⟨#[110,111,116]⟩))),(2,1,(.c (oI 1)))],none⟩,
 ⟨some 19,.build [.int .u8 0,.str ⟨#[]⟩,oI 0] [(0,1,(.c (.int .u8 5))),(1,1,(.c (.str ⟨#[97,110,100]⟩))),(2,1,(.c (oI 2)))],none⟩,
 ⟨some 20,.build [.int .u8 0,.str ⟨#[]⟩,oI 0] [(0,1,(.c (.int .u8 6))),(1,1,(.c (.str ⟨#[111,114]⟩))),(2,1,(.c (oI 2)))],none⟩,
 ⟨some 21,.build [.int .u8 0,.str ⟨#[]⟩,oI 0] [(0,1,(.c (.int .u8 8))),(1,1,(.c (.str ⟨#[112,114,101,118,105,111,117,115]⟩))),(2,1,(.c (oI 1)))],none⟩,
 ⟨some 22,.build [.int .u8 0,.str ⟨#[]⟩,oI 0] [(0,1,(.c (.int .u8 9))),(1,1,(.c (.str ⟨#[115,105,110,99,101]⟩))),(2,1,(.c (oI 2)))],none⟩,
 ⟨some 23,.build [.int .u8 0,.str ⟨#[]⟩,oI 0] [(0,1,(.c (.int .u8 10))),(1,1,(.c (.str ⟨#[111,110,99,101]⟩))),(2,1,(.c (oI 1)))],none⟩,
 ⟨some 24,.build [.int .u8 0,.str ⟨#[]⟩,oI 0,.int .u8 0,.str ⟨#[]⟩,oI 0,.int .u8 0,.str ⟨#[]⟩,oI 0,.int .u8 0,.str ⟨#[]⟩,oI 0,.int .u8 0,.str ⟨#[]⟩,oI 0,.int .u8 0,.str ⟨#[]⟩,oI 0] [(0,3,.t 18),(3,3,.t 19),(6,3,.t 20),(9,3,.t 21),(12,3,.t 22),(15,3,.t 23)],none⟩,
 oM 25 (.c (oI 0))])
 (.block 1 (.loop xO0 xXs)))
 (oR ([⟨some 38,.build [.str ⟨#[]⟩,oI 0,oI 0,oI 0,.bool false,.bool false] [],none⟩,
 ⟨none,.store 6 (.t 2) (.t 38),none⟩])
 .ret))),
 [.cell 2 true 6]⟩
def a70 : AFunc := ⟨53,
 oR ([oM 6 (.c (.int .u8 0))])
 (.seq (.block 0 (.seq (.draw 4 [oT 8 0,
 oO 9 (.nilchk (.t 8)),
 oF 10 1 9,
 oH 11 1 10,
 oT 12 0,
 oO 13 (.nilchk (.t 12)),
 oF 14 0 13,
 oH 15 1 14,
 oO 16 (.slen (.t 15)),
 oB 17 .eql 11 16,
 oT 7 17])
 (.cond (.t 7)
 (.stuck)
 (.seq (.draw 5 [oT 25 1,
 oT 26 0,
 oO 27 (.nilchk (.t 26)),
 oF 28 0 27,
 oH 29 1 28,
 oT 30 0,
 oO 31 (.nilchk (.t 30)),
 oF 32 1 31,
 oH 33 1 32,
 oO 34 (.sidx (.t 29) (.t 33)),
 oO 35 (.call 98 [.t 25,.t 34]),
 oA 36 .lss 35 (.c (oI 0)),
 oT 24 36])
 (.cond (.t 24)
 (.stuck)
 .skip)))))
 (.seq (.draw 4 [oT 44 0,
 oO 45 (.nilchk (.t 44)),
 oF 46 0 45,
 oH 47 1 46,
 oT 48 0,
 oO 49 (.nilchk (.t 48)),
 oF 50 1 49,
 oH 51 1 50,
 oO 52 (.sidx (.t 47) (.t 51)),
 oT 6 52])
 .ret)),
 [.tmp 6]⟩
def xZu : ACode :=
 .seq (oR ([oT 28 7,
 oA 29 .leq 28 (.c (.int .u8 10))])
 (.cond (.t 29)
 .skip
 (.exit 0)))
 (.seq (.block 1 (oR ([oT 32 7,
 oO 33 (.call 68 [.t 32]),
 oO 34 (.field false 0 1 (.t 33)),
 oT 35 5,
 oO 36 (.sbeq false (.t 34) (.t 35)),
 oT 37 36,
 ⟨some 38,.mov (.t 7),some (37,true)⟩,
 ⟨some 39,.bin .neq (.t 38) (.c (.int .u8 1)),some (37,true)⟩,
 ⟨some 40,.mov (.t 1),some (37,true)⟩,
 ⟨some 41,.beq false (.t 39) (.t 40),some (37,true)⟩,
 oO 42 (.pick (.t 37) (.t 41) (.c (.bool false)))])
 (.cond (.t 42)
 (oR ([oT 43 0,
 oO 44 (.nilchk (.t 43)),
 oF 45 1 44,
 oH 46 1 45,
 oT 47 5,
 oO 48 (.slen (.t 47)),
 oB 49 .add 46 48,
 oO 50 (.nilchk (.t 43)),
 oF 51 1 50,
 ⟨none,.store 1 (.t 51) (.t 49),none⟩])
 (oR ([oT 52 7,
 oT 4 52])
 .ret))
 .skip)))
 (.region [oT 30 7,
 oA 31 .add 30 (.c (.int .u8 1)),
 oT 7 31]))
def yBj : ACode := xZu
def xZv : List Nat := [2,3,6,8,9,10,11,12,13,14,15,16,17,18,19,20,21,22,23,24,25,26,27,28,29,30,31,32,33,34,35,36,37,38,39,40,41,42,43,44,45,46,47,48,49,50,51,52,53,54,55,56,57,58]
def a71 : AFunc := ⟨59,
 oR ([oM 4 (.c (.int .u8 0))])
 (oR ([⟨some 5,.mov (.c (.str ⟨#[61]⟩)),none⟩])
 (.seq (oR ([oT 8 0,
 ⟨some 9,.icall (.c (.func 70 [])) [.t 8,(.c (.str ⟨#[61,97,98,99,100,101,102,103,104,105,106,107,108,109,110,111,112,113,114,115,116,117,118,119,120,121,122]⟩)),(.c (oI 2))],none⟩,
 oA 10 .neq 9 (.c (.int .u8 61))])
 (.cond (.t 10)
 (.seq (.draw 4 [oT 11 0,
 oO 12 (.nilchk (.t 11)),
 oF 13 0 12,
 oH 14 1 13,
 oT 15 0,
 oO 16 (.nilchk (.t 15)),
 oF 17 1 16,
 oH 18 1 17,
 oO 19 (.sslice (.t 14) (some (.t 18)) none),
 oT 6 19])
 (.region [oT 20 6,
 oT 21 6,
 oO 22 (.slen (.t 21)),
 oT 23 6,
 ⟨some 24,.call 99 [.t 23,(.c (.str ⟨#[97,98,99,100,101,102,103,104,105,106,107,108,109,110,111,112,113,114,115,116,117,118,119,120,121,122]⟩))],none⟩,
 oO 25 (.slen (.t 24)),
 oB 26 .sub 22 25,
 oO 27 (.sslice (.t 20) none (some (.t 26))),
 oT 5 27]))
 .skip))
 (.seq (oR ([oM 7 (.c (.int .u8 1))])
 (.block 0 (.loop xZv yBj)))
 (.stuck)))),
 [.tmp 4]⟩
def a72 : AFunc := ⟨21,
 oR ([oM 4 (.c (oI 0))])
 (oR ([oT 6 0,
 ⟨some 7,.icall (.c (.func 73 [])) [.t 6,(.c (.str ⟨#[32]⟩))],none⟩])
 (oR ([oT 8 0,
 oT 9 1,
 oO 10 (.icall (.c (.func 70 [])) [.t 8,.t 9,(.c (oI 1))]),
 oT 5 10])
 (oR ([oT 11 0,
 oO 12 (.nilchk (.t 11)),
 oF 13 1 12,
 oH 14 1 13,
 oA 15 .add 14 (.c (oI 1)),
 oO 16 (.nilchk (.t 11)),
 oF 17 1 16,
 ⟨none,.store 1 (.t 17) (.t 15),none⟩])
 (oR ([oT 18 1,
 oT 19 5,
 oO 20 (.call 98 [.t 18,.t 19]),
 oT 4 20])
 .ret)))),
 [.tmp 4]⟩
def a73 : AFunc := ⟨14,
 oR ([oT 4 0,
 oT 5 1,
 oO 6 (.icall (.c (.func 70 [])) [.t 4,.t 5,(.c (oI 2))])])
 (.region [oT 7 0,
 oO 8 (.nilchk (.t 7)),
 oF 9 1 8,
 oH 10 1 9,
 oA 11 .add 10 (.c (oI 1)),
 oO 12 (.nilchk (.t 7)),
 oF 13 1 12,
 ⟨none,.store 1 (.t 13) (.t 11),none⟩]),
 []⟩
def a82 : AFunc := ⟨8,
 oR ([oM 2 (.c (oS))])
 (.seq (oR ([oT 3 0,
 oO 4 (.isnil false (.t 3))])
 (.cond (.t 4)
 (oR ([oM 2 (.c (oS))])
 .ret)
 .skip))
 (oR ([oO 5 (.bslice false [.int .u8 0,oI 0,oS,oI 0,oI 0,oI 0] 6 0 []),
 oT 6 0,
 oO 7 (.append false 6 64 (.t 5) (.t 6)),
 oT 2 7])
 .ret)),
 [.tmp 2]⟩
def a83 : AFunc := ⟨8,
 oR ([oM 2 (.c (oS))])
 (.seq (oR ([oT 3 0,
 oO 4 (.isnil false (.t 3))])
 (.cond (.t 4)
 (oR ([oM 2 (.c (oS))])
 .ret)
 .skip))
 (oR ([oO 5 (.bslice false [oI 0] 1 0 []),
 oT 6 0,
 oO 7 (.append false 1 8 (.t 5) (.t 6)),
 oT 2 7])
 .ret)),
 [.tmp 2]⟩
def a84 : AFunc := ⟨11,
 oR ([oX 3 (.t 0),
 oX 4 (.t 1),
 oM 6 (.c (.bool false))])
 (oR ([oT 7 2,
 oO 8 (.mkfunc 102 [.t 3,.t 4]),
 oO 9 (.icall (.c (.func 101 [])) [.t 7,.t 8]),
 oO 10 (.un .not (.t 9)),
 oT 6 10])
 .ret),
 [.tmp 6]⟩
def a85 : AFunc := ⟨6,
 oR ([oX 3 (.t 1),
 oX 4 (.c (.agg [.int .u64 0,.int .u64 0,.int .u64 0,.int .u64 0,.int .u64 0,.int .u64 0,.int .u64 0,.int .u64 0]))])
 (oR ([oO 5 (.icall (.c (.func 103 [])) [(.c (.func 104 []))]),
 ⟨none,.store 8 (.t 4) (.t 5),none⟩])
 .ret),
 [.cell 4 true 8]⟩
def a86 : AFunc := ⟨28,
 oR ([oX 2 (.t 0),
 oX 3 (.t 1),
 oX 4 (.c (.agg [.int .u64 0,.int .u64 0,.int .u64 0,.int .u64 0,.int .u64 0,.int .u64 0,.int .u64 0,.int .u64 0]))])
 (.seq (.seq (.draw 18 [oF 5 1 3,
 oH 6 1 5,
 oH 7 1 2,
 oO 8 (.nilchk (.t 7)),
 oF 9 0 8,
 oF 10 0 9,
 oH 11 1 10,
 oB 12 .neq 6 11,
 oT 13 12,
 ⟨some 14,.faddr 2 (.t 3),some (13,false)⟩,
 ⟨some 15,.load false 1 (.t 14),some (13,false)⟩,
 ⟨some 16,.len (.t 15),some (13,false)⟩,
 ⟨some 17,.load false 1 (.t 2),some (13,false)⟩,
 ⟨some 18,.nilchk (.t 17),some (13,false)⟩,
 ⟨some 19,.faddr 0 (.t 18),some (13,false)⟩,
 ⟨some 20,.faddr 1 (.t 19),some (13,false)⟩,
 ⟨some 21,.load false 1 (.t 20),some (13,false)⟩,
 ⟨some 22,.len (.t 21),some (13,false)⟩,
 ⟨some 23,.bin .neq (.t 16) (.t 22),some (13,false)⟩,
 oO 24 (.pick (.t 13) (.c (.bool true)) (.t 23))])
 (.cond (.t 24)
 (oR ([oO 25 (.build [.int .u64 0,.int .u64 0,.int .u64 0,.int .u64 0,.int .u64 0,.int .u64 0,.int .u64 0,.int .u64 0] []),
 ⟨none,.store 8 (.t 4) (.t 25),none⟩])
 .ret)
 .skip))
 (oR ([oO 26 (.mkfunc 105 [.t 3,.t 2]),
 oO 27 (.icall (.c (.func 103 [])) [.t 26]),
 ⟨none,.store 8 (.t 4) (.t 27),none⟩])
 .ret)),
 [.cell 4 true 8]⟩
def a87 : AFunc := ⟨7,
 oR ([oX 3 (.t 1),
 oX 4 (.c (.agg [.int .u64 0,.int .u64 0,.int .u64 0,.int .u64 0,.int .u64 0,.int .u64 0,.int .u64 0,.int .u64 0]))])
 (oR ([oO 5 (.mkfunc 106 [.t 3]),
 oO 6 (.icall (.c (.func 103 [])) [.t 5]),
 ⟨none,.store 8 (.t 4) (.t 6),none⟩])
 .ret),
 [.cell 4 true 8]⟩
def a88 : AFunc := ⟨15,
 oR ([oX 3 (.t 1),
 oX 4 (.c (.agg [.int .u64 0,.int .u64 0,.int .u64 0,.int .u64 0,.int .u64 0,.int .u64 0,.int .u64 0,.int .u64 0]))])
 (.seq (.draw 8 [oT 5 0,
 oO 6 (.nilchk (.t 5)),
 oF 7 2 6,
 oH 8 1 7,
 oF 9 4 3,
 oH 10 1 9,
 oO 11 (.iaddr 8 (.t 8) (.t 10)),
 oG 12 8 11,
 oO 13 (.build [.int .u64 0,.int .u64 0,.int .u64 0,.int .u64 0,.int .u64 0,.int .u64 0,.int .u64 0,.int .u64 0] []),
 oO 14 (.icall (.c (.func 107 [])) [.t 12,.t 13,(.c (.func 108 []))]),
 ⟨none,.store 8 (.t 4) (.t 14),none⟩])
 .ret),
 [.cell 4 true 8]⟩
def a89 : AFunc := ⟨22,
 oR ([oX 3 (.t 1),
 oX 4 (.c (.agg [.int .u64 0,.int .u64 0,.int .u64 0,.int .u64 0,.int .u64 0,.int .u64 0,.int .u64 0,.int .u64 0]))])
 (.seq (.draw 12 [oT 5 0,
 oO 6 (.nilchk (.t 5)),
 oF 7 2 6,
 oH 8 1 7,
 oF 9 4 3,
 oH 10 1 9,
 oO 11 (.iaddr 8 (.t 8) (.t 10)),
 oG 12 8 11,
 oT 13 0,
 oO 14 (.nilchk (.t 13)),
 oF 15 2 14,
 oH 16 1 15,
 oF 17 5 3,
 oH 18 1 17,
 oO 19 (.iaddr 8 (.t 16) (.t 18)),
 oG 20 8 19,
 oO 21 (.call 109 [.t 12,.t 20]),
 ⟨none,.store 8 (.t 4) (.t 21),none⟩])
 .ret),
 [.cell 4 true 8]⟩
def a90 : AFunc := ⟨22,
 oR ([oX 3 (.t 1),
 oX 4 (.c (.agg [.int .u64 0,.int .u64 0,.int .u64 0,.int .u64 0,.int .u64 0,.int .u64 0,.int .u64 0,.int .u64 0]))])
 (.seq (.draw 12 [oT 5 0,
 oO 6 (.nilchk (.t 5)),
 oF 7 2 6,
 oH 8 1 7,
 oF 9 4 3,
 oH 10 1 9,
 oO 11 (.iaddr 8 (.t 8) (.t 10)),
 oG 12 8 11,
 oT 13 0,
 oO 14 (.nilchk (.t 13)),
 oF 15 2 14,
 oH 16 1 15,
 oF 17 5 3,
 oH 18 1 17,
 oO 19 (.iaddr 8 (.t 16) (.t 18)),
 oG 20 8 19,
 oO 21 (.call 110 [.t 12,.t 20]),
 ⟨none,.store 8 (.t 4) (.t 21),none⟩])
 .ret),
 [.cell 4 true 8]⟩
def a91 : AFunc := ⟨16,
 oR ([oX 3 (.t 1),
 oX 4 (.c (.agg [.int .u64 0,.int .u64 0,.int .u64 0,.int .u64 0,.int .u64 0,.int .u64 0,.int .u64 0,.int .u64 0]))])
 (.seq (.draw 8 [oT 5 0,
 oO 6 (.nilchk (.t 5)),
 oF 7 2 6,
 oH 8 1 7,
 oF 9 4 3,
 oH 10 1 9,
 oO 11 (.iaddr 8 (.t 8) (.t 10)),
 oG 12 8 11,
 oF 13 3 3,
 oH 14 1 13,
 oO 15 (.call 111 [.t 12,.t 14]),
 ⟨none,.store 8 (.t 4) (.t 15),none⟩])
 .ret),
 [.cell 4 true 8]⟩
def a92 : AFunc := ⟨9,
 oR ([oX 3 (.t 1),
 oX 4 (.c (.agg [.int .u64 0,.int .u64 0,.int .u64 0,.int .u64 0,.int .u64 0,.int .u64 0,.int .u64 0,.int .u64 0]))])
 (oR ([oT 5 0,
 oO 6 (.nilchk (.t 5)),
 oF 7 3 6,
 oG 8 8 7,
 ⟨none,.store 8 (.t 4) (.t 8),none⟩])
 .ret),
 [.cell 4 true 8]⟩
def a93 : AFunc := ⟨27,
 oR ([oX 3 (.t 1),
 oX 4 (.c (.agg [.int .u64 0,.int .u64 0,.int .u64 0,.int .u64 0,.int .u64 0,.int .u64 0,.int .u64 0,.int .u64 0]))])
 (.seq (.draw 21 [oT 5 0,
 oO 6 (.nilchk (.t 5)),
 oF 7 2 6,
 oH 8 1 7,
 oF 9 5 3,
 oH 10 1 9,
 oO 11 (.iaddr 8 (.t 8) (.t 10)),
 oG 12 8 11,
 oT 13 0,
 oO 14 (.nilchk (.t 13)),
 oF 15 2 14,
 oH 16 1 15,
 oF 17 4 3,
 oH 18 1 17,
 oO 19 (.iaddr 8 (.t 16) (.t 18)),
 oG 20 8 19,
 oT 21 0,
 oO 22 (.nilchk (.t 21)),
 oF 23 3 22,
 oG 24 8 23,
 oO 25 (.call 109 [.t 20,.t 24]),
 oO 26 (.call 110 [.t 12,.t 25]),
 ⟨none,.store 8 (.t 4) (.t 26),none⟩])
 .ret),
 [.cell 4 true 8]⟩
def a94 : AFunc := ⟨18,
 oR ([oX 3 (.t 1),
 oX 4 (.c (.agg [.int .u64 0,.int .u64 0,.int .u64 0,.int .u64 0,.int .u64 0,.int .u64 0,.int .u64 0,.int .u64 0]))])
 (.seq (.draw 8 [oT 5 0,
 oO 6 (.nilchk (.t 5)),
 oF 7 2 6,
 oH 8 1 7,
 oF 9 4 3,
 oH 10 1 9,
 oO 11 (.iaddr 8 (.t 8) (.t 10)),
 oG 12 8 11,
 oT 13 0,
 oO 14 (.nilchk (.t 13)),
 oF 15 3 14,
 oG 16 8 15,
 oO 17 (.call 110 [.t 12,.t 16]),
 ⟨none,.store 8 (.t 4) (.t 17),none⟩])
 .ret),
 [.cell 4 true 8]⟩
def yAQ : AFunc := ⟨9,
 oR ([oM 4 (.c (.bool false))])
 (oR ([oT 5 0,
 oT 6 1,
 oO 7 (.icall (.c (.func 119 [])) [.t 5,.t 6]),
 oA 8 .geq 7 (.c (oI 0)),
 oT 4 8])
 .ret),
 [.tmp 4]⟩
def xZw : AFunc := ⟨13,
 oR ([oM 4 (.c (.bool false))])
 (oR ([oT 5 0,
 oH 6 1 1,
 oB 7 .lss 5 6,
 oT 8 7,
 ⟨some 9,.mov (.t 0),some (8,false)⟩,
 ⟨some 10,.load false 1 (.t 2),some (8,false)⟩,
 ⟨some 11,.bin .gtr (.t 9) (.t 10),some (8,false)⟩,
 oO 12 (.pick (.t 8) (.c (.bool true)) (.t 11)),
 oT 4 12])
 .ret),
 [.tmp 4]⟩
def xHH : ACode :=
 oR ([oA 14 .lss 13 (.c (oI 8))])
 (.seq (.cond (.t 14)
 .skip
 (.exit 4))
 (.seq (.block 5 (oR ([oT 15 13,
 oX 5 (.c (oI 0)),
 ⟨none,.store 1 (.t 5) (.t 15),none⟩])
 (oR ([oO 16 (.mkfunc 120 [.t 3,.t 4,.t 5]),
 oT 6 16])
 (oR ([oT 17 0,
 oT 18 6,
 oO 19 (.icall (.t 17) [.t 18])])
 (.cond (.t 19)
 (.region [oH 20 1 3,
 oH 21 1 4,
 oH 22 1 5,
 oO 23 (.icall (.c (.func 121 [])) [.t 2,.t 20,.t 21,.t 22])])
 .skip)))))
 (.region [oA 24 .add 13 (.c (oI 1)),
 oT 13 24])))
def xL9 : ACode := xHH
def xFt : List Nat := [1,5,6,8,9,11,12,14,15,16,17,18,19,20,21,22,23,24,25,26,27]
abbrev xFu (s0 s2 s3 s4 s7 s10 s13 : AV) : List AV := [s0,oE,s2,s3,s4,oE,oE,s7,oE,oE,s10,oE,oE,s13,oE,oE,oE,oE,oE,oE,oE,oE,oE,oE,oE,oE,oE,oE]
theorem xJ2 (a b c d e f g h i j k l m n o p q r s t u v w x y z A B : AV) : xAu xFt [a,b,c,d,e,f,g,h,i,j,k,l,m,n,o,p,q,r,s,t,u,v,w,x,y,z,A,B] = xFu a c d e h k n := by kernel_rfl
theorem xNg {prog : Nat → Option AFunc} (s0 s2 s3 s4 s7 s10 s13 : AV) (H : Heap) : (lim prog).loop xFt xL9 ⟨xFu s0 s2 s3 s4 s7 s10 s13,H⟩ = xA9 (lim prog) xFt xL9 (run (lim prog) xHH ⟨xFu s0 s2 s3 s4 s7 s10 s13,H⟩) := xAh _ _ _ _ (by kernel_rfl)
def xJ3 : ACode :=
 oR ([oA 11 .lss 10 (.c (oI 8))])
 (.seq (.cond (.t 11)
 .skip
 (.exit 2))
 (.seq (.block 3 (oR ([oT 12 10,
 oX 4 (.c (oI 0)),
 ⟨none,.store 1 (.t 4) (.t 12),none⟩])
 (oR ([oM 13 (.c (oI 0))])
 (.block 4 (.loop xFt xL9)))))
 (.region [oA 25 .add 10 (.c (oI 1)),
 oT 10 25])))
def xMa : ACode := xJ3
def xFv : List Nat := [1,4,5,6,8,9,11,12,13,14,15,16,17,18,19,20,21,22,23,24,25,26,27]
abbrev xFw (s0 s2 s3 s7 s10 : AV) : List AV := [s0,oE,s2,s3,oE,oE,oE,s7,oE,oE,s10,oE,oE,oE,oE,oE,oE,oE,oE,oE,oE,oE,oE,oE,oE,oE,oE,oE]
theorem xNh (a b c d e f g h i j k l m n o p q r s t u v w x y z A B : AV) : xAu xFv [a,b,c,d,e,f,g,h,i,j,k,l,m,n,o,p,q,r,s,t,u,v,w,x,y,z,A,B] = xFw a c d h k := by kernel_rfl
theorem xSR {prog : Nat → Option AFunc} (s0 s2 s3 s7 s10 : AV) (H : Heap) : (lim prog).loop xFv xMa ⟨xFw s0 s2 s3 s7 s10,H⟩ = xA9 (lim prog) xFv xMa (run (lim prog) xJ3 ⟨xFw s0 s2 s3 s7 s10,H⟩) := xAh _ _ _ _ (by kernel_rfl)
def xJ4 : ACode :=
 oR ([oA 8 .lss 7 (.c (oI 8))])
 (.seq (.cond (.t 8)
 .skip
 (.exit 0))
 (.seq (.block 1 (oR ([oT 9 7,
 oX 3 (.c (oI 0)),
 ⟨none,.store 1 (.t 3) (.t 9),none⟩])
 (oR ([oM 10 (.c (oI 0))])
 (.block 2 (.loop xFv xMa)))))
 (.region [oA 26 .add 7 (.c (oI 1)),
 oT 7 26])))
def xMb : ACode := xJ4
def xFx : List Nat := [1,3,4,5,6,8,9,10,11,12,13,14,15,16,17,18,19,20,21,22,23,24,25,26,27]
abbrev xFy (s0 s2 s7 : AV) : List AV := [s0,oE,s2,oE,oE,oE,oE,s7,oE,oE,oE,oE,oE,oE,oE,oE,oE,oE,oE,oE,oE,oE,oE,oE,oE,oE,oE,oE]
theorem xNi (a b c d e f g h i j k l m n o p q r s t u v w x y z A B : AV) : xAu xFx [a,b,c,d,e,f,g,h,i,j,k,l,m,n,o,p,q,r,s,t,u,v,w,x,y,z,A,B] = xFy a c h := by kernel_rfl
theorem xSS {prog : Nat → Option AFunc} (s0 s2 s7 : AV) (H : Heap) : (lim prog).loop xFx xMb ⟨xFy s0 s2 s7,H⟩ = xA9 (lim prog) xFx xMb (run (lim prog) xJ4 ⟨xFy s0 s2 s7,H⟩) := xAh _ _ _ _ (by kernel_rfl)
def yBk : AFunc := ⟨28,
 oR ([oX 2 (.c (.agg [.int .u64 0,.int .u64 0,.int .u64 0,.int .u64 0,.int .u64 0,.int .u64 0,.int .u64 0,.int .u64 0]))])
 (.seq (oR ([oM 7 (.c (oI 0))])
 (.block 0 (.loop xFx xMb)))
 (oR ([oG 27 8 2,
 ⟨none,.store 8 (.t 2) (.t 27),none⟩])
 .ret)),
 [.cell 2 true 8]⟩
def yBl : AFunc := ⟨3,
 oR ([oM 2 (.c (.bool false))])
 (oR ([oM 2 (.c (.bool true))])
 .ret),
 [.tmp 2]⟩
def xHI : ACode :=
 oR ([oB 11 .lss 10 9])
 (.seq (.cond (.t 11)
 .skip
 (.exit 0))
 (.seq (.block 1 (oR ([oT 12 10,
 oO 13 (.iaddr 1 (.t 8) (.t 10)),
 oH 14 1 13,
 oT 5 12,
 oT 6 14])
 (.seq (.draw 11 [oT 15 0,
 oT 16 6,
 oO 17 (.fcall (.t 15) [.t 16]),
 oH 18 1 2,
 oO 19 (.nilchk (.t 18)),
 oF 20 0 19,
 oF 21 1 20,
 oH 22 1 21,
 oT 23 5,
 oO 24 (.iaddr 1 (.t 22) (.t 23)),
 oH 25 1 24,
 oB 26 .neq 17 25])
 (.cond (.t 26)
 (oR ([oM 4 (.c (.bool false))])
 .ret)
 .skip))))
 (.region [oA 27 .add 10 (.c (oI 1)),
 oT 10 27])))
def xMc : ACode := xHI
def xFz : List Nat := [1,3,5,6,7,11,12,13,14,15,16,17,18,19,20,21,22,23,24,25,26,27]
abbrev xEu (s0 s2 s4 s8 s9 s10 : AV) : List AV := [s0,oE,s2,oE,s4,oE,oE,oE,s8,s9,s10,oE,oE,oE,oE,oE,oE,oE,oE,oE,oE,oE,oE,oE,oE,oE,oE,oE]
theorem xHJ (a b c d e f g h i j k l m n o p q r s t u v w x y z A B : AV) : xAu xFz [a,b,c,d,e,f,g,h,i,j,k,l,m,n,o,p,q,r,s,t,u,v,w,x,y,z,A,B] = xEu a c e i j k := by kernel_rfl
theorem xNj {prog : Nat → Option AFunc} (s0 s2 s4 s8 s9 s10 : AV) (H : Heap) : (lim prog).loop xFz xMc ⟨xEu s0 s2 s4 s8 s9 s10,H⟩ = xA9 (lim prog) xFz xMc (run (lim prog) xHI ⟨xEu s0 s2 s4 s8 s9 s10,H⟩) := xAh _ _ _ _ (by kernel_rfl)
def a105 : AFunc := ⟨28,
 oR ([oM 4 (.c (.bool false))])
 (.seq (oR ([oF 7 2 1,
 oH 8 1 7,
 oN 9 8,
 oM 10 (.c (oI 0))])
 (.block 0 (.loop xFz xMc)))
 (oR ([oM 4 (.c (.bool true))])
 .ret)),
 [.tmp 4]⟩
def yBm : AFunc := ⟨17,
 oR ([oM 3 (.c (.bool false))])
 (.seq (.draw 11 [oT 4 0,
 oF 5 2 1,
 oH 6 1 5,
 oO 7 (.iaddr 1 (.t 6) (.c (oI 0))),
 oH 8 1 7,
 oO 9 (.fcall (.t 4) [.t 8]),
 oT 10 0,
 oF 11 2 1,
 oH 12 1 11,
 oO 13 (.iaddr 1 (.t 12) (.c (oI 1))),
 oH 14 1 13,
 oO 15 (.icall (.t 10) [.t 14]),
 oB 16 .eql 9 15,
 oT 3 16])
 .ret),
 [.tmp 3]⟩
def xJ5 : ACode :=
 oR ([oA 9 .lss 8 (.c (oI 8))])
 (.seq (.cond (.t 9)
 .skip
 (.exit 0))
 (.seq (.block 1 (oR ([oT 10 8,
 oT 7 10])
 (.draw 5 [oT 11 7,
 oT 12 2,
 oT 13 7,
 oO 14 (.arrat 1 8 (.t 3) (.t 13)),
 oH 15 1 14,
 oT 16 7,
 oO 17 (.arrat 1 8 (.t 4) (.t 16)),
 oH 18 1 17,
 oO 19 (.icall (.t 12) [.t 15,.t 18]),
 oO 20 (.arrat 1 8 (.t 3) (.t 11)),
 ⟨none,.store 1 (.t 20) (.t 19),none⟩])))
 (.region [oA 21 .add 8 (.c (oI 1)),
 oT 8 21])))
def xMd : ACode := xJ5
def xFA : List Nat := [0,1,5,7,9,10,11,12,13,14,15,16,17,18,19,20,21,22]
abbrev xFB (s2 s3 s4 s6 s8 : AV) : List AV := [oE,oE,s2,s3,s4,oE,s6,oE,s8,oE,oE,oE,oE,oE,oE,oE,oE,oE,oE,oE,oE,oE,oE]
theorem xNk (a b c d e f g h i j k l m n o p q r s t u v w : AV) : xAu xFA [a,b,c,d,e,f,g,h,i,j,k,l,m,n,o,p,q,r,s,t,u,v,w] = xFB c d e g i := by kernel_rfl
theorem xST {prog : Nat → Option AFunc} (s2 s3 s4 s6 s8 : AV) (H : Heap) : (lim prog).loop xFA xMd ⟨xFB s2 s3 s4 s6 s8,H⟩ = xA9 (lim prog) xFA xMd (run (lim prog) xJ5 ⟨xFB s2 s3 s4 s6 s8,H⟩) := xAh _ _ _ _ (by kernel_rfl)
def yBn : AFunc := ⟨23,
 oR ([oX 3 (.t 0),
 oX 4 (.t 1),
 oX 6 (.c (.agg [.int .u64 0,.int .u64 0,.int .u64 0,.int .u64 0,.int .u64 0,.int .u64 0,.int .u64 0,.int .u64 0]))])
 (.seq (oR ([oM 8 (.c (oI 0))])
 (.block 0 (.loop xFA xMd)))
 (oR ([oG 22 8 3,
 ⟨none,.store 8 (.t 6) (.t 22),none⟩])
 .ret)),
 [.cell 6 true 8]⟩
def yBo : AFunc := ⟨7,
 oR ([oM 4 (.c (.int .u64 0))])
 (oR ([oT 5 0,
 oO 6 (.un .xor (.t 5)),
 oT 4 6])
 .ret),
 [.tmp 4]⟩
def yBp : AFunc := ⟨8,
 oR ([oX 2 (.t 0),
 oX 3 (.t 1),
 oX 4 (.c (.agg [.int .u64 0,.int .u64 0,.int .u64 0,.int .u64 0,.int .u64 0,.int .u64 0,.int .u64 0,.int .u64 0]))])
 (oR ([oG 5 8 2,
 oG 6 8 3,
 oO 7 (.icall (.c (.func 107 [])) [.t 5,.t 6,(.c (.func 122 []))]),
 ⟨none,.store 8 (.t 4) (.t 7),none⟩])
 .ret),
 [.cell 4 true 8]⟩
def yBq : AFunc := ⟨8,
 oR ([oX 2 (.t 0),
 oX 3 (.t 1),
 oX 4 (.c (.agg [.int .u64 0,.int .u64 0,.int .u64 0,.int .u64 0,.int .u64 0,.int .u64 0,.int .u64 0,.int .u64 0]))])
 (oR ([oG 5 8 2,
 oG 6 8 3,
 oO 7 (.icall (.c (.func 107 [])) [.t 5,.t 6,(.c (.func 123 []))]),
 ⟨none,.store 8 (.t 4) (.t 7),none⟩])
 .ret),
 [.cell 4 true 8]⟩
def xFC : ACode :=
 oR ([oA 30 .lss 29 (.c (oI 8))])
 (.seq (.cond (.t 30)
 .skip
 (.exit 6))
 (.seq (.block 7 (oR ([oT 31 29,
 oT 8 31])
 (oR ([oT 32 5,
 oT 33 6,
 oT 34 7,
 oO 35 (.build [oI 0,oI 0,oI 0] [(0,1,.t 32),(1,1,.t 33),(2,1,.t 34)]),
 oX 9 (.c (.agg [oI 0,oI 0,oI 0])),
 ⟨none,.store 3 (.t 9) (.t 35),none⟩])
 (oR ([oT 36 1,
 oA 37 .sub 36 (.c (oI 8)),
 oT 38 8,
 oO 39 (.arrat 1 3 (.t 9) (.t 37)),
 ⟨none,.store 1 (.t 39) (.t 38),none⟩])
 (.region [oO 40 (.arrat 1 3 (.t 9) (.c (oI 0))),
 oH 41 1 40,
 oO 42 (.arrat 1 3 (.t 9) (.c (oI 1))),
 oH 43 1 42,
 oO 44 (.arrat 1 3 (.t 9) (.c (oI 2))),
 oH 45 1 44,
 oO 46 (.icall (.c (.func 121 [])) [.t 4,.t 41,.t 43,.t 45])])))))
 (.region [oA 47 .add 29 (.c (oI 1)),
 oT 29 47])))
def xMe : ACode := xFC
def xFD : List Nat := [0,3,8,9,11,12,14,15,17,18,19,20,21,22,23,24,25,26,27,28,30,31,32,33,34,35,36,37,38,39,40,41,42,43,44,45,46,47,48,49,50,51]
abbrev xFE (s1 s2 s4 s5 s6 s7 s10 s13 s16 s29 : AV) : List AV := [oE,s1,s2,oE,s4,s5,s6,s7,oE,oE,s10,oE,oE,s13,oE,oE,s16,oE,oE,oE,oE,oE,oE,oE,oE,oE,oE,oE,oE,s29,oE,oE,oE,oE,oE,oE,oE,oE,oE,oE,oE,oE,oE,oE,oE,oE,oE,oE,oE,oE,oE,oE]
theorem xHK (a b c d e f g h i j k l m n o p q r s t u v w x y z A B C D E F G H I J K L M N O P Q R S T U V W X Y Z : AV) : xAu xFD [a,b,c,d,e,f,g,h,i,j,k,l,m,n,o,p,q,r,s,t,u,v,w,x,y,z,A,B,C,D,E,F,G,H,I,J,K,L,M,N,O,P,Q,R,S,T,U,V,W,X,Y,Z] = xFE b c e f g h k n q D := by kernel_rfl
theorem xJ6 {prog : Nat → Option AFunc} (s1 s2 s4 s5 s6 s7 s10 s13 s16 s29 : AV) (H : Heap) : (lim prog).loop xFD xMe ⟨xFE s1 s2 s4 s5 s6 s7 s10 s13 s16 s29,H⟩ = xA9 (lim prog) xFD xMe (run (lim prog) xFC ⟨xFE s1 s2 s4 s5 s6 s7 s10 s13 s16 s29,H⟩) := xAh _ _ _ _ (by kernel_rfl)
def xHL : ACode :=
 oR ([oA 17 .lss 16 (.c (oI 8))])
 (.seq (.cond (.t 17)
 .skip
 (.exit 4))
 (.seq (.block 5 (oR ([oT 18 16,
 oT 7 18])
 (.seq (oR ([oT 19 5,
 oO 20 (.arrat 1 8 (.t 2) (.t 19)),
 oH 21 1 20,
 oT 22 6,
 oO 23 (.bin .mul (.c (oI 8)) (.t 22)),
 oT 24 7,
 oB 25 .add 23 24,
 oB 26 .shr 21 25,
 oA 27 .and 26 (.c (.int .u64 1)),
 oA 28 .eql 27 (.c (.int .u64 0))])
 (.cond (.t 28)
 (.exit 5)
 .skip))
 (oR ([oM 29 (.c (oI 0))])
 (.block 6 (.loop xFD xMe))))))
 (.region [oA 48 .add 16 (.c (oI 1)),
 oT 16 48])))
def xMf : ACode := xHL
def xFF : List Nat := [0,3,7,8,9,11,12,14,15,17,18,19,20,21,22,23,24,25,26,27,28,29,30,31,32,33,34,35,36,37,38,39,40,41,42,43,44,45,46,47,48,49,50,51]
abbrev xFG (s1 s2 s4 s5 s6 s10 s13 s16 : AV) : List AV := [oE,s1,s2,oE,s4,s5,s6,oE,oE,oE,s10,oE,oE,s13,oE,oE,s16,oE,oE,oE,oE,oE,oE,oE,oE,oE,oE,oE,oE,oE,oE,oE,oE,oE,oE,oE,oE,oE,oE,oE,oE,oE,oE,oE,oE,oE,oE,oE,oE,oE,oE,oE]
theorem xJ7 (a b c d e f g h i j k l m n o p q r s t u v w x y z A B C D E F G H I J K L M N O P Q R S T U V W X Y Z : AV) : xAu xFF [a,b,c,d,e,f,g,h,i,j,k,l,m,n,o,p,q,r,s,t,u,v,w,x,y,z,A,B,C,D,E,F,G,H,I,J,K,L,M,N,O,P,Q,R,S,T,U,V,W,X,Y,Z] = xFG b c e f g k n q := by kernel_rfl
theorem xNl {prog : Nat → Option AFunc} (s1 s2 s4 s5 s6 s10 s13 s16 : AV) (H : Heap) : (lim prog).loop xFF xMf ⟨xFG s1 s2 s4 s5 s6 s10 s13 s16,H⟩ = xA9 (lim prog) xFF xMf (run (lim prog) xHL ⟨xFG s1 s2 s4 s5 s6 s10 s13 s16,H⟩) := xAh _ _ _ _ (by kernel_rfl)
def xJ8 : ACode :=
 oR ([oA 14 .lss 13 (.c (oI 8))])
 (.seq (.cond (.t 14)
 .skip
 (.exit 2))
 (.seq (.block 3 (oR ([oT 15 13,
 oT 6 15])
 (oR ([oM 16 (.c (oI 0))])
 (.block 4 (.loop xFF xMf)))))
 (.region [oA 49 .add 13 (.c (oI 1)),
 oT 13 49])))
def xMg : ACode := xJ8
def xFH : List Nat := [0,3,6,7,8,9,11,12,14,15,16,17,18,19,20,21,22,23,24,25,26,27,28,29,30,31,32,33,34,35,36,37,38,39,40,41,42,43,44,45,46,47,48,49,50,51]
abbrev xFI (s1 s2 s4 s5 s10 s13 : AV) : List AV := [oE,s1,s2,oE,s4,s5,oE,oE,oE,oE,s10,oE,oE,s13,oE,oE,oE,oE,oE,oE,oE,oE,oE,oE,oE,oE,oE,oE,oE,oE,oE,oE,oE,oE,oE,oE,oE,oE,oE,oE,oE,oE,oE,oE,oE,oE,oE,oE,oE,oE,oE,oE]
theorem xNm (a b c d e f g h i j k l m n o p q r s t u v w x y z A B C D E F G H I J K L M N O P Q R S T U V W X Y Z : AV) : xAu xFH [a,b,c,d,e,f,g,h,i,j,k,l,m,n,o,p,q,r,s,t,u,v,w,x,y,z,A,B,C,D,E,F,G,H,I,J,K,L,M,N,O,P,Q,R,S,T,U,V,W,X,Y,Z] = xFI b c e f k n := by kernel_rfl
theorem xSU {prog : Nat → Option AFunc} (s1 s2 s4 s5 s10 s13 : AV) (H : Heap) : (lim prog).loop xFH xMg ⟨xFI s1 s2 s4 s5 s10 s13,H⟩ = xA9 (lim prog) xFH xMg (run (lim prog) xJ8 ⟨xFI s1 s2 s4 s5 s10 s13,H⟩) := xAh _ _ _ _ (by kernel_rfl)
def xJ9 : ACode :=
 oR ([oA 11 .lss 10 (.c (oI 8))])
 (.seq (.cond (.t 11)
 .skip
 (.exit 0))
 (.seq (.block 1 (oR ([oT 12 10,
 oT 5 12])
 (oR ([oM 13 (.c (oI 0))])
 (.block 2 (.loop xFH xMg)))))
 (.region [oA 50 .add 10 (.c (oI 1)),
 oT 10 50])))
def xMh : ACode := xJ9
def xFJ : List Nat := [0,3,5,6,7,8,9,11,12,13,14,15,16,17,18,19,20,21,22,23,24,25,26,27,28,29,30,31,32,33,34,35,36,37,38,39,40,41,42,43,44,45,46,47,48,49,50,51]
abbrev xFK (s1 s2 s4 s10 : AV) : List AV := [oE,s1,s2,oE,s4,oE,oE,oE,oE,oE,s10,oE,oE,oE,oE,oE,oE,oE,oE,oE,oE,oE,oE,oE,oE,oE,oE,oE,oE,oE,oE,oE,oE,oE,oE,oE,oE,oE,oE,oE,oE,oE,oE,oE,oE,oE,oE,oE,oE,oE,oE,oE]
theorem xNn (a b c d e f g h i j k l m n o p q r s t u v w x y z A B C D E F G H I J K L M N O P Q R S T U V W X Y Z : AV) : xAu xFJ [a,b,c,d,e,f,g,h,i,j,k,l,m,n,o,p,q,r,s,t,u,v,w,x,y,z,A,B,C,D,E,F,G,H,I,J,K,L,M,N,O,P,Q,R,S,T,U,V,W,X,Y,Z] = xFK b c e k := by kernel_rfl
theorem xSV {prog : Nat → Option AFunc} (s1 s2 s4 s10 : AV) (H : Heap) : (lim prog).loop xFJ xMh ⟨xFK s1 s2 s4 s10,H⟩ = xA9 (lim prog) xFJ xMh (run (lim prog) xJ9 ⟨xFK s1 s2 s4 s10,H⟩) := xAh _ _ _ _ (by kernel_rfl)
def yBr : AFunc := ⟨52,
 oR ([oX 2 (.t 0),
 oX 4 (.c (.agg [.int .u64 0,.int .u64 0,.int .u64 0,.int .u64 0,.int .u64 0,.int .u64 0,.int .u64 0,.int .u64 0]))])
 (.seq (oR ([oM 10 (.c (oI 0))])
 (.block 0 (.loop xFJ xMh)))
 (oR ([oG 51 8 4,
 ⟨none,.store 8 (.t 4) (.t 51),none⟩])
 .ret)),
 [.cell 4 true 8]⟩
def xHM : ACode :=
 oR ([oB 9 .lss 8 7])
 (.seq (.cond (.t 9)
 .skip
 (.exit 0))
 (.seq (.block 1 (oR ([oT 10 8,
 oT 5 10])
 (oR ([oT 11 1,
 oT 12 0,
 oT 13 5,
 oO 14 (.iaddr 1 (.t 12) (.t 13)),
 oH 15 1 14,
 oO 16 (.icall (.t 11) [.t 15])])
 (.cond (.t 16)
 (oR ([oT 17 5,
 oT 4 17])
 .ret)
 .skip))))
 (.region [oA 18 .add 8 (.c (oI 1)),
 oT 8 18])))
def xMi : ACode := xHM
def xFL : List Nat := [2,3,5,6,9,10,11,12,13,14,15,16,17,18]
abbrev xEv (s0 s1 s4 s7 s8 : AV) : List AV := [s0,s1,oE,oE,s4,oE,oE,s7,s8,oE,oE,oE,oE,oE,oE,oE,oE,oE,oE]
theorem xHN (a b c d e f g h i j k l m n o p q r s : AV) : xAu xFL [a,b,c,d,e,f,g,h,i,j,k,l,m,n,o,p,q,r,s] = xEv a b e h i := by kernel_rfl
theorem xNo {prog : Nat → Option AFunc} (s0 s1 s4 s7 s8 : AV) (H : Heap) : (lim prog).loop xFL xMi ⟨xEv s0 s1 s4 s7 s8,H⟩ = xA9 (lim prog) xFL xMi (run (lim prog) xHM ⟨xEv s0 s1 s4 s7 s8,H⟩) := xAh _ _ _ _ (by kernel_rfl)
def a119 : AFunc := ⟨19,
 oR ([oM 4 (.c (oI 0))])
 (.seq (oR ([oT 6 0,
 oN 7 6,
 oM 8 (.c (oI 0))])
 (.block 0 (.loop xFL xMi)))
 (oR ([oM 4 (.c (.int .i64 (-1)))])
 .ret)),
 [.tmp 4]⟩
def xZx : AFunc := ⟨16,
 oR ([oM 5 (.c (oI 0))])
 (.seq (oR ([oT 6 0,
 oA 7 .lss 6 (.c (oI 8))])
 (.cond (.t 7)
 (oR ([oT 8 0,
 oT 5 8])
 .ret)
 .skip))
 (oR ([oH 9 1 1,
 oH 10 1 2,
 oH 11 1 3,
 oO 12 (.build [oI 0,oI 0,oI 0] [(0,1,.t 9),(1,1,.t 10),(2,1,.t 11)]),
 oT 13 0,
 oA 14 .sub 13 (.c (oI 8)),
 oO 15 (.idx false 1 3 (.t 12) (.t 14)),
 oT 5 15])
 .ret)),
 [.tmp 5]⟩
def yBs : AFunc := ⟨21,
 .draw 11 [oT 8 0,
 oT 9 1,
 oO 10 (.nilchk (.t 8)),
 oO 11 (.arrat 1 8 (.t 10) (.t 9)),
 oH 12 1 11,
 oT 13 2,
 oO 14 (.bin .mul (.c (oI 8)) (.t 13)),
 oT 15 3,
 oB 16 .add 14 15,
 oO 17 (.bin .shl (.c (.int .u64 1)) (.t 16)),
 oB 18 .or 12 17,
 oO 19 (.nilchk (.t 8)),
 oO 20 (.arrat 1 8 (.t 19) (.t 9)),
 ⟨none,.store 1 (.t 20) (.t 18),none⟩],
 []⟩
def yBt : AFunc := ⟨8,
 oR ([oM 4 (.c (.int .u64 0))])
 (oR ([oT 5 0,
 oT 6 1,
 oB 7 .and 5 6,
 oT 4 7])
 .ret),
 [.tmp 4]⟩
def yBu : AFunc := ⟨8,
 oR ([oM 4 (.c (.int .u64 0))])
 (oR ([oT 5 0,
 oT 6 1,
 oB 7 .or 5 6,
 oT 4 7])
 .ret),
 [.tmp 4]⟩
def xAk : Nat → Option AFunc
 | 9 => some a9
 | 17 => some a17
 | 18 => some a18
 | 19 => some a19
 | 21 => some a21
 | 22 => some a22
 | 24 => some a24
 | 25 => some a25
 | 29 => some a29
 | 33 => some a33
 | 34 => some a34
 | 35 => some a35
 | 36 => some a36
 | 37 => some a37
 | 39 => some a39
 | 41 => some a41
 | 42 => some a42
 | 46 => some a46
 | 47 => some a47
 | 48 => some a48
 | 49 => some a49
 | 50 => some a50
 | 51 => some a51
 | 54 => some a54
 | 55 => some a55
 | 56 => some a56
 | 57 => some a57
 | 60 => some a60
 | 62 => some a62
 | 66 => some a66
 | 67 => some a67
 | 68 => some a68
 | 70 => some a70
 | 71 => some a71
 | 72 => some a72
 | 73 => some a73
 | 82 => some a82
 | 83 => some a83
 | 84 => some a84
 | 85 => some a85
 | 86 => some a86
 | 87 => some a87
 | 88 => some a88
 | 89 => some a89
 | 90 => some a90
 | 91 => some a91
 | 92 => some a92
 | 93 => some a93
 | 94 => some a94
 | 101 => some yAQ
 | 102 => some xZw
 | 103 => some yBk
 | 104 => some yBl
 | 105 => some a105
 | 106 => some yBm
 | 107 => some yBn
 | 108 => some yBo
 | 109 => some yBp
 | 110 => some yBq
 | 111 => some yBr
 | 119 => some a119
 | 120 => some xZx
 | 121 => some yBs
 | 122 => some yBt
 | 123 => some yBu
 | _ => none
theorem a9p (args : List AV) : (lim xAk).pcall 9 args = xAz (lim xAk) a9 args := xAi rfl args
theorem yCV (args : List AV) : (lim xAk).pcall 17 args = xAz (lim xAk) a17 args := xAi rfl args
theorem yCq (args : List AV) : (lim xAk).pcall 18 args = xAz (lim xAk) a18 args := xAi rfl args
theorem yCr (caps args : List AV) (H : Heap) : (lim xAk).icall (.func 18 caps) args H = xAX (lim xAk) a18 (args ++ caps) H := xAj rfl caps args H
theorem yCs (caps args : List AV) (H : Heap) : (lim xAk).icall (.func 19 caps) args H = xAX (lim xAk) a19 (args ++ caps) H := xAj rfl caps args H
theorem yCt (caps args : List AV) (H : Heap) : (lim xAk).icall (.func 21 caps) args H = xAX (lim xAk) a21 (args ++ caps) H := xAj rfl caps args H
theorem yBv (caps args : List AV) (H : Heap) : (lim xAk).icall (.func 22 caps) args H = xAX (lim xAk) a22 (args ++ caps) H := xAj rfl caps args H
theorem yCW (caps args : List AV) (H : Heap) : (lim xAk).icall (.func 24 caps) args H = xAX (lim xAk) a24 (args ++ caps) H := xAj rfl caps args H
theorem yCu (caps args : List AV) (H : Heap) : (lim xAk).icall (.func 25 caps) args H = xAX (lim xAk) a25 (args ++ caps) H := xAj rfl caps args H
theorem yCX (caps args : List AV) (H : Heap) : (lim xAk).icall (.func 29 caps) args H = xAX (lim xAk) a29 (args ++ caps) H := xAj rfl caps args H
theorem yAR (args : List AV) : (lim xAk).pcall 33 args = xAz (lim xAk) a33 args := xAi rfl args
theorem xYI (args : List AV) : (lim xAk).pcall 34 args = xAz (lim xAk) a34 args := xAi rfl args
theorem yAS (args : List AV) : (lim xAk).pcall 35 args = xAz (lim xAk) a35 args := xAi rfl args
theorem yCv (args : List AV) : (lim xAk).pcall 36 args = xAz (lim xAk) a36 args := xAi rfl args
theorem yCY (caps args : List AV) (H : Heap) : (lim xAk).icall (.func 37 caps) args H = xAX (lim xAk) a37 (args ++ caps) H := xAj rfl caps args H
theorem yCZ (args : List AV) : (lim xAk).pcall 39 args = xAz (lim xAk) a39 args := xAi rfl args
theorem xV7 (args : List AV) : (lim xAk).pcall 42 args = xAz (lim xAk) a42 args := xAi rfl args
theorem yC0 (args : List AV) : (lim xAk).pcall 46 args = xAz (lim xAk) a46 args := xAi rfl args
theorem yC1 (args : List AV) : (lim xAk).pcall 47 args = xAz (lim xAk) a47 args := xAi rfl args
theorem yC2 (args : List AV) : (lim xAk).pcall 48 args = xAz (lim xAk) a48 args := xAi rfl args
theorem yC3 (caps args : List AV) (H : Heap) : (lim xAk).icall (.func 49 caps) args H = xAX (lim xAk) a49 (args ++ caps) H := xAj rfl caps args H
theorem yC4 (args : List AV) : (lim xAk).pcall 50 args = xAz (lim xAk) a50 args := xAi rfl args
theorem yC5 (args : List AV) : (lim xAk).pcall 51 args = xAz (lim xAk) a51 args := xAi rfl args
theorem yBw (args : List AV) : (lim xAk).pcall 54 args = xAz (lim xAk) a54 args := xAi rfl args
theorem yC6 (caps args : List AV) (H : Heap) : (lim xAk).icall (.func 55 caps) args H = xAX (lim xAk) a55 (args ++ caps) H := xAj rfl caps args H
theorem yC7 (args : List AV) : (lim xAk).pcall 56 args = xAz (lim xAk) a56 args := xAi rfl args
theorem yC8 (caps args : List AV) (H : Heap) : (lim xAk).icall (.func 57 caps) args H = xAX (lim xAk) a57 (args ++ caps) H := xAj rfl caps args H
theorem yC9 (caps args : List AV) (H : Heap) : (lim xAk).icall (.func 60 caps) args H = xAX (lim xAk) a60 (args ++ caps) H := xAj rfl caps args H
theorem yDa (args : List AV) : (lim xAk).pcall 66 args = xAz (lim xAk) a66 args := xAi rfl args
theorem xEy (args : List AV) : (lim xAk).pcall 67 args = xAz (lim xAk) a67 args := xAi rfl args
theorem xSW (args : List AV) : (lim xAk).pcall 68 args = xAz (lim xAk) a68 args := xAi rfl args
theorem yDb (caps args : List AV) (H : Heap) : (lim xAk).icall (.func 82 caps) args H = xAX (lim xAk) a82 (args ++ caps) H := xAj rfl caps args H
theorem yCw (args : List AV) : (lim xAk).pcall 83 args = xAz (lim xAk) a83 args := xAi rfl args
theorem yDc (args : List AV) : (lim xAk).pcall 84 args = xAz (lim xAk) a84 args := xAi rfl args
theorem yDd (args : List AV) : (lim xAk).pcall 85 args = xAz (lim xAk) a85 args := xAi rfl args
theorem yCx (args : List AV) : (lim xAk).pcall 86 args = xAz (lim xAk) a86 args := xAi rfl args
theorem yDe (args : List AV) : (lim xAk).pcall 87 args = xAz (lim xAk) a87 args := xAi rfl args
theorem yDf (args : List AV) : (lim xAk).pcall 88 args = xAz (lim xAk) a88 args := xAi rfl args
theorem yDg (args : List AV) : (lim xAk).pcall 89 args = xAz (lim xAk) a89 args := xAi rfl args
theorem yDh (args : List AV) : (lim xAk).pcall 90 args = xAz (lim xAk) a90 args := xAi rfl args
theorem yDi (args : List AV) : (lim xAk).pcall 91 args = xAz (lim xAk) a91 args := xAi rfl args
theorem yDj (caps args : List AV) (H : Heap) : (lim xAk).icall (.func 92 caps) args H = xAX (lim xAk) a92 (args ++ caps) H := xAj rfl caps args H
theorem yDk (caps args : List AV) (H : Heap) : (lim xAk).icall (.func 93 caps) args H = xAX (lim xAk) a93 (args ++ caps) H := xAj rfl caps args H
theorem yDl (caps args : List AV) (H : Heap) : (lim xAk).icall (.func 94 caps) args H = xAX (lim xAk) a94 (args ++ caps) H := xAj rfl caps args H
theorem xZy (caps args : List AV) (H : Heap) : (lim xAk).icall (.func 101 caps) args H = xAX (lim xAk) yAQ (args ++ caps) H := xAj rfl caps args H
theorem xXt (caps args : List AV) (H : Heap) : (lim xAk).icall (.func 102 caps) args H = xAX (lim xAk) xZw (args ++ caps) H := xAj rfl caps args H
theorem yBx (caps args : List AV) (H : Heap) : (lim xAk).icall (.func 103 caps) args H = xAX (lim xAk) yBk (args ++ caps) H := xAj rfl caps args H
theorem yBy (caps args : List AV) (H : Heap) : (lim xAk).icall (.func 104 caps) args H = xAX (lim xAk) yBl (args ++ caps) H := xAj rfl caps args H
theorem xZz (caps args : List AV) (H : Heap) : (lim xAk).icall (.func 105 caps) args H = xAX (lim xAk) a105 (args ++ caps) H := xAj rfl caps args H
theorem yBz (caps args : List AV) (H : Heap) : (lim xAk).icall (.func 106 caps) args H = xAX (lim xAk) yBm (args ++ caps) H := xAj rfl caps args H
theorem yBA (caps args : List AV) (H : Heap) : (lim xAk).icall (.func 107 caps) args H = xAX (lim xAk) yBn (args ++ caps) H := xAj rfl caps args H
theorem yBB (caps args : List AV) (H : Heap) : (lim xAk).icall (.func 108 caps) args H = xAX (lim xAk) yBo (args ++ caps) H := xAj rfl caps args H
theorem yBC (args : List AV) : (lim xAk).pcall 109 args = xAz (lim xAk) yBp args := xAi rfl args
theorem yBD (args : List AV) : (lim xAk).pcall 110 args = xAz (lim xAk) yBq args := xAi rfl args
theorem yBE (args : List AV) : (lim xAk).pcall 111 args = xAz (lim xAk) yBr args := xAi rfl args
theorem xZA (caps args : List AV) (H : Heap) : (lim xAk).icall (.func 119 caps) args H = xAX (lim xAk) a119 (args ++ caps) H := xAj rfl caps args H
theorem yBF (args : List AV) : (lim xAk).pcall 120 args = xAz (lim xAk) xZx args := xAi rfl args
theorem yBG (caps args : List AV) (H : Heap) : (lim xAk).icall (.func 120 caps) args H = xAX (lim xAk) xZx (args ++ caps) H := xAj rfl caps args H
theorem yBH (caps args : List AV) (H : Heap) : (lim xAk).icall (.func 121 caps) args H = xAX (lim xAk) yBs (args ++ caps) H := xAj rfl caps args H
theorem yBI (caps args : List AV) (H : Heap) : (lim xAk).icall (.func 122 caps) args H = xAX (lim xAk) yBt (args ++ caps) H := xAj rfl caps args H
theorem yBJ (caps args : List AV) (H : Heap) : (lim xAk).icall (.func 123 caps) args H = xAX (lim xAk) yBu (args ++ caps) H := xAj rfl caps args H
end Go.Abs.Events
