/- The parser's walks: the stages of formula. -/
import Derived.Test.YtdheandekcpieaaDoorAbsBun
import Derived.Test.YtdheandekcpieaaDoorAMQ
namespace Go.Abs.Events
open Go Go.Abs
set_option maxHeartbeats 4000000
set_option linter.unusedSimpArgs false
set_option linter.unusedVariables false
def sqA : ACode → ACode
 | .seq a _ => a
 | c => c
def sqB : ACode → ACode
 | .seq _ b => b
 | c => c
def pc0 : ACode := sqA (a41.code)
def pc1 : ACode := sqA (sqB (a41.code))
def pc2 : ACode := sqA (sqB (sqB (a41.code)))
def pc3 : ACode := sqA (sqB (sqB (sqB (a41.code))))
def pc4 : ACode := sqA (sqB (sqB (sqB (sqB (a41.code)))))
def pc5 : ACode := sqA (sqB (sqB (sqB (sqB (sqB (a41.code))))))
def pc6 : ACode := sqA (sqB (sqB (sqB (sqB (sqB (sqB (a41.code)))))))
def pc7 : ACode := sqA (sqB (sqB (sqB (sqB (sqB (sqB (sqB (a41.code))))))))
def pc8 : ACode := sqA (sqB (sqB (sqB (sqB (sqB (sqB (sqB (sqB (a41.code)))))))))
def pc9 : ACode := sqA (sqB (sqB (sqB (sqB (sqB (sqB (sqB (sqB (sqB (a41.code))))))))))
def xPS : ACode := sqA (sqB (sqB (sqB (sqB (sqB (sqB (sqB (sqB (sqB (sqB (a41.code)))))))))))
def xPT : ACode := sqA (sqB (sqB (sqB (sqB (sqB (sqB (sqB (sqB (sqB (sqB (sqB (a41.code))))))))))))
def xUz : ACode := sqA (sqB (sqB (sqB (sqB (sqB (sqB (sqB (sqB (sqB (sqB (sqB (sqB (a41.code)))))))))))))
def xW5 : ACode := sqA (sqB (sqB (sqB (sqB (sqB (sqB (sqB (sqB (sqB (sqB (sqB (sqB (sqB (a41.code))))))))))))))
def yCM : ACode := sqB (sqB (sqB (sqB (sqB (sqB (sqB (sqB (sqB (sqB (sqB (sqB (sqB (sqB (a41.code))))))))))))))
theorem yAB : a41.code = .seq pc0 (.seq pc1 (.seq pc2 (.seq pc3 (.seq pc4 (.seq pc5 (.seq pc6 (.seq pc7 (.seq pc8 (.seq pc9 (.seq xPS (.seq xPT (.seq xUz (.seq xW5 (yCM)))))))))))))) := rfl
theorem xA3 {F : List AV} (h : F.length = 134) : F = F.getD 0 .any :: F.getD 1 .any :: F.getD 2 .any :: F.getD 3 .any :: F.getD 4 .any :: F.getD 5 .any :: F.getD 6 .any :: F.getD 7 .any :: F.getD 8 .any :: F.getD 9 .any :: F.getD 10 .any :: F.getD 11 .any :: F.getD 12 .any :: F.getD 13 .any :: F.getD 14 .any :: F.getD 15 .any :: F.getD 16 .any :: F.getD 17 .any :: F.getD 18 .any :: F.getD 19 .any :: F.getD 20 .any :: F.getD 21 .any :: F.getD 22 .any :: F.getD 23 .any :: F.getD 24 .any :: F.getD 25 .any :: F.getD 26 .any :: F.getD 27 .any :: F.getD 28 .any :: F.getD 29 .any :: F.getD 30 .any :: F.getD 31 .any :: F.getD 32 .any :: F.getD 33 .any :: F.getD 34 .any :: F.getD 35 .any :: F.getD 36 .any :: F.getD 37 .any :: F.getD 38 .any :: F.getD 39 .any :: F.getD 40 .any :: F.getD 41 .any :: F.getD 42 .any :: F.getD 43 .any :: F.getD 44 .any :: F.getD 45 .any :: F.getD 46 .any :: F.getD 47 .any :: F.getD 48 .any :: F.getD 49 .any :: F.getD 50 .any :: F.getD 51 .any :: F.getD 52 .any :: F.getD 53 .any :: F.getD 54 .any :: F.getD 55 .any :: F.getD 56 .any :: F.getD 57 .any :: F.getD 58 .any :: F.getD 59 .any :: F.getD 60 .any :: F.getD 61 .any :: F.getD 62 .any :: F.getD 63 .any :: F.getD 64 .any :: F.getD 65 .any :: F.getD 66 .any :: F.getD 67 .any :: F.getD 68 .any :: F.getD 69 .any :: F.getD 70 .any :: F.getD 71 .any :: F.getD 72 .any :: F.getD 73 .any :: F.getD 74 .any :: F.getD 75 .any :: F.getD 76 .any :: F.getD 77 .any :: F.getD 78 .any :: F.getD 79 .any :: F.getD 80 .any :: F.getD 81 .any :: F.getD 82 .any :: F.getD 83 .any :: F.getD 84 .any :: F.getD 85 .any :: F.getD 86 .any :: F.getD 87 .any :: F.getD 88 .any :: F.getD 89 .any :: F.getD 90 .any :: F.getD 91 .any :: F.getD 92 .any :: F.getD 93 .any :: F.getD 94 .any :: F.getD 95 .any :: F.getD 96 .any :: F.getD 97 .any :: F.getD 98 .any :: F.getD 99 .any :: F.getD 100 .any :: F.getD 101 .any :: F.getD 102 .any :: F.getD 103 .any :: F.getD 104 .any :: F.getD 105 .any :: F.getD 106 .any :: F.getD 107 .any :: F.getD 108 .any :: F.getD 109 .any :: F.getD 110 .any :: F.getD 111 .any :: F.getD 112 .any :: F.getD 113 .any :: F.getD 114 .any :: F.getD 115 .any :: F.getD 116 .any :: F.getD 117 .any :: F.getD 118 .any :: F.getD 119 .any :: F.getD 120 .any :: F.getD 121 .any :: F.getD 122 .any :: F.getD 123 .any :: F.getD 124 .any :: F.getD 125 .any :: F.getD 126 .any :: F.getD 127 .any :: F.getD 128 .any :: F.getD 129 .any :: F.getD 130 .any :: F.getD 131 .any :: F.getD 132 .any :: F.getD 133 .any :: [] := by
 have e : ∀ {n : Nat} {F : List AV},F.length = n → F = (List.range n).map fun i => F.getD i .any := by
  intro n F hn
  apply List.ext_getElem?
  intro i
  rw [List.getElem?_map]
  by_cases c : i < n
  ·rw [List.getElem?_range c,List.getElem?_eq_getElem (by omega)]
   show _ = some (F.getD i .any)
   rw [List.getD_eq_getElem?_getD,List.getElem?_eq_getElem (by omega)]; rfl
  ·rw [List.getElem?_eq_none (by omega),List.getElem?_eq_none (by simp; omega)]; rfl
 exact (e h).trans rfl
structure Fr (F : List AV) (rb : Nat) (ins : Bool) (ix io : Nat) : Prop where
 len : F.length = 134
 s0 : F.getD 0 .any = .ptr rb 0
 s3 : F.getD 3 .any = .bool ins
 s4 : F.getD 4 .any = .ptr ix 0
 s5 : F.getD 5 .any = .ptr io 0
structure FrA (F : List AV) (rb : Nat) : Prop where
 len : F.length = 134
 s0 : F.getD 0 .any = .ptr rb 0
structure FrB (F : List AV) (rb : Nat) (ins : Bool) : Prop where
 len : F.length = 134
 s0 : F.getD 0 .any = .ptr rb 0
 s3 : F.getD 3 .any = .bool ins
structure FrC (F : List AV) (rb : Nat) (ins : Bool) (ix : Nat) : Prop where
 len : F.length = 134
 s0 : F.getD 0 .any = .ptr rb 0
 s3 : F.getD 3 .any = .bool ins
 s4 : F.getD 4 .any = .ptr ix 0
section
variable {F : List AV} {G : Heap} {rb ix io at_ many op : Nat} {S : List UInt8} {lv av : AV} {ins : Bool} {nm x a b : Int} {c : UInt8}
theorem st0 (hF : FrA F rb)  : ∃ F',run L1 pc0 ⟨F,G⟩ = some (.normal,⟨F',G⟩) ∧ FrA F' rb := by
 obtain ⟨hl,h0⟩ := hF
 rw [xA3 hl,h0]
 apply xB2
 ·simp (disch := omega) only [pc0,sqA,a41,WB]
  rfl
 ·constructor <;> rfl
theorem st1 (hF : FrA F rb) (h : RD G rb S at_ lv many) (hS : S.length ≤ 4096) (hc : S[at_]? = some c) (hm : (c == 40 || smB c) = true) : ∃ F',run L1 pc1 ⟨F,G⟩ = some (.normal,⟨F',G⟩) ∧ FrB F' rb (c == 40) := by
 obtain ⟨hl,h0⟩ := hF
 have hmem : (40 :: ltB).contains c = true := by rw [List.contains_cons,xJn]; exact hm
 have hn : L1.icall (.func 70 []) [.ptr rb 0,.str ⟨#[40,97,98,99,100,101,102,103,104,105,106,107,108,109,110,111,112,113,114,115,116,117,118,119,120,121,122]⟩,.int .i64 2] G = some (.int .u8 (c.toNat : Nat),G) := xDZ (cs := 40 :: ltB) h hS hc hmem
 have hcc : decide (((c.toNat : Nat) : Int) = 40) = (c == 40) := by
  rw [Bool.eq_iff_iff,decide_eq_true_iff,beq_iff_eq]
  constructor
  ·intro e
   have : c.toNat = 40 := by omega
   exact UInt8.toNat_inj.1 this
  ·intro e; subst e; rfl
 rw [xA3 hl,h0]
 apply xB2
 ·simp (disch := omega) only [pc1,sqA,sqB,a41,WB,hn,hcc]
  rfl
 ·constructor <;> rfl
theorem st2 (hF : FrB F rb ins) (h : RD G rb S at_ lv many) (hm : many < 64) : ∃ F',run L1 pc2 ⟨F,G⟩ = some (.normal,⟨F',G⟩) ∧ FrB F' rb ins := by
 obtain ⟨hl,h0,h3⟩ := hF
 have hne : (((many : Nat) : Int) = 64) = False := by simp; omega
 unfold RD at h
 rw [xA3 hl,h0,h3]
 apply xB2
 ·simp (maxSteps := 30000000) (disch := first|exact D5|fail) only [pc2,sqA,sqB,a41,WB,h,hne,↓reduceIte]
  rfl
 ·constructor <;> rfl
theorem st3 (hF : FrB F rb ins) (h : RD G rb S at_ lv many) (hm : many < 64) : ∃ F',run L1 pc3 ⟨F,G⟩ = some (.normal,⟨F',G.set rb (rdB S at_ lv (many + 1))⟩) ∧ FrB F' rb ins := by
 obtain ⟨hl,h0,h3⟩ := hF
 unfold RD at h
 have lo := xAp h
 rw [xA3 hl,h0,h3]
 apply xB2
 ·simp (maxSteps := 30000000) (disch := first|exact D5|fail) only [pc3,sqA,sqB,a41,WB,h,AV.cells,↓reduceIte,Nat.reduceAdd]
  rfl
 ·constructor <;> rfl
theorem yDx (hF : FrB F rb ins) (hi : ins = true) (h : RD G rb S at_ lv many) (hm : at_ ≤ 4096) : ∃ F',run L1 pc4 ⟨F,G⟩ = some (.normal,⟨F',G.set rb (rdB S (at_ + 1) lv many)⟩) ∧ FrB F' rb ins := by
 obtain ⟨hl,h0,h3⟩ := hF
 subst hi
 unfold RD at h
 have lo := xAp h
 rw [xA3 hl,h0,h3]
 apply xB2
 ·simp (maxSteps := 30000000) (disch := first|exact D5|fail) only [pc4,sqA,sqB,a41,WB,↓reduceIte,h,AV.cells,Nat.reduceAdd]
  rfl
 ·constructor <;> rfl
theorem yDy (hF : FrB F rb ins) (hi : ins = false) : ∃ F',run L1 pc4 ⟨F,G⟩ = some (.normal,⟨F',G⟩) ∧ FrB F' rb ins := by
 obtain ⟨hl,h0,h3⟩ := hF
 subst hi
 rw [xA3 hl,h0,h3]
 apply xB2
 ·simp (disch := omega) only [pc4,sqA,sqB,a41,WB,↓reduceIte]
  rfl
 ·constructor <;> rfl
theorem st5 (hF : FrB F rb ins) {w : Nat} (h : RD G rb S at_ lv many) (hn : L1.icall (.func 71 []) [.ptr rb 0,.bool ins] G = some (.int .u8 (op : Nat),G.set rb (rdB S w lv many))) : ∃ F',run L1 pc5 ⟨F,G⟩ = some (.normal,⟨F',G.set rb (rdB S w lv many) ++ [xB op 0 (.sl true 0 []) 0 0 0]⟩) ∧ FrC F' rb ins G.length := by
 obtain ⟨hl,h0,h3⟩ := hF
 have lo := xAp (show G[rb]? = some _ from h)
 rw [xA3 hl,h0,h3]
 apply xB2
 ·simp (maxSteps := 30000000) (disch := first|exact D5|fail) only [pc5,sqA,sqB,a41,WB,hn,AV.cells,↓reduceIte,Nat.reduceAdd,Nat.reduceLeDiff,AV.isCell,xBT,xES]
  rfl
 ·constructor <;> rfl
theorem st6 (hF : FrC F rb ins ix) (hx : G[ix]? = some (xB op nm av x a b)) : ∃ F',run L1 pc6 ⟨F,G⟩ = some (.normal,⟨F',G ++ [.cells false false (foC op)]⟩) ∧ Fr F' rb ins ix G.length := by
 obtain ⟨hl,h0,h3,h4⟩ := hF
 have lx := xAp hx
 have hq := xGL op
 unfold foC at hq
 unfold foC
 rw [xA3 hl,h0,h3,h4]
 apply xB2
 ·simp (maxSteps := 30000000) (disch := first|exact D5|fail) only [pc6,sqA,sqB,a41,WB,hx,hq,xAN,xAt,↓reduceIte,AV.cells,AV.isCell,Nat.reduceAdd,xBT,xES]
  rfl
 ·constructor <;> rfl
theorem yEE (hF : Fr F rb ins ix io) (hop : op = 2) (h : RD G rb S at_ lv many) (hS : S.length ≤ 4096) (h32 : S[at_]? = some 32) (hc : S[at_ + 1]? = some c) (hm : nmsB.contains c = true) (hx : G[ix]? = some (xB op nm av x a b)) (ho : G[io]? = some (.cells false false (foC op))) (ne1 : rb ≠ ix) (ne2 : rb ≠ io) (ne3 : ix ≠ io) : ∃ F',run L1 pc7 ⟨F,G⟩ = some (.normal,⟨F',(G.set rb (rdB S (at_ + 2) lv many)).set ix (xB op (nmsB.idxOf c : Nat) av x a b)⟩) ∧ Fr F' rb ins ix io := by
 obtain ⟨hl,h0,h3,h4,h5⟩ := hF
 have lx := xAp hx
 have lio := xAp ho
 have lo := xAp (show G[rb]? = some _ from h)
 have hn : L1.icall (.func 72 []) [.ptr rb 0,.str ⟨#[97,98,99,100,101,102,103,104]⟩] G = some (.int .i64 (nmsB.idxOf c : Nat),G.set rb (rdB S (at_ + 2) lv many)) := xEi (cs := nmsB) h hS h32 hc hm
 unfold foC at ho
 have hd : decide (op = 2) = true := decide_eq_true hop
 generalize ((nmsB.idxOf c : Nat) : Int) = t at *
 rw [xA3 hl,h0,h3,h4,h5]
 apply xB2
 ·simp (maxSteps := 30000000) (disch := first|exact D5|fail) only [pc7,sqA,sqB,a41,WB,ho,hd,↓reduceIte,hn,AV.cells,xBB,hx,Nat.reduceAdd]
  rfl
 ·constructor <;> rfl
theorem yEF (hF : Fr F rb ins ix io) (hop : op ≠ 2) (hx : G[ix]? = some (xB op nm av x a b)) (ho : G[io]? = some (.cells false false (foC op))) : ∃ F',run L1 pc7 ⟨F,G⟩ = some (.normal,⟨F',G⟩) ∧ Fr F' rb ins ix io := by
 obtain ⟨hl,h0,h3,h4,h5⟩ := hF
 have lx := xAp hx
 have lio := xAp ho
 unfold foC at ho
 have hd : decide (op = 2) = false := decide_eq_false hop
 rw [xA3 hl,h0,h3,h4,h5]
 apply xB2
 ·simp (disch := omega) only [pc7,sqA,sqB,a41,WB,ho,hd,↓reduceIte]
  rfl
 ·constructor <;> rfl
theorem yEG (hF : Fr F rb ins ix io) (hop : op = 7) (h : RD G rb S at_ lv many) (hS : S.length ≤ 4096) (h32 : S[at_]? = some 32) (hc : S[at_ + 1]? = some c) (hm : vrsB.contains c = true) (hx : G[ix]? = some (xB op nm av x a b)) (ho : G[io]? = some (.cells false false (foC op))) (ne1 : rb ≠ ix) (ne2 : rb ≠ io) (ne3 : ix ≠ io) : ∃ F',run L1 pc8 ⟨F,G⟩ = some (.normal,⟨F',(G.set rb (rdB S (at_ + 2) lv many)).set ix (xB op nm av (8 + vrsB.idxOf c : Nat) a b)⟩) ∧ Fr F' rb ins ix io := by
 obtain ⟨hl,h0,h3,h4,h5⟩ := hF
 have lx := xAp hx
 have lio := xAp ho
 have lo := xAp (show G[rb]? = some _ from h)
 have hn : L1.icall (.func 72 []) [.ptr rb 0,zS vrsB] G = some (.int .i64 (vrsB.idxOf c : Nat),G.set rb (rdB S (at_ + 2) lv many)) := xEi (cs := vrsB) h hS h32 hc hm
 have hsl : ∀ H,xX0 H (.str ⟨#[48,49,50,51,52,53,54,55,120,121,122]⟩) (some (.int .i64 8)) none = some (zS vrsB,H) := fun H => xPo (S := splB) (a := 8) H (by decide)
 unfold foC at ho
 have hd : decide (op = 7) = true := decide_eq_true hop
 have hv : vrsB.idxOf c < 3 := by
  have : vrsB.idxOf c < vrsB.length := List.idxOf_lt_length_iff.2 (by simpa using hm)
  exact this
 have hw : IntKind.i64.wrap (8 + ((vrsB.idxOf c : Nat) : Int)) = ((8 + vrsB.idxOf c : Nat) : Int) := by rw [xRH (by omega) (by omega)]; omega
 generalize vrsB.idxOf c = t at *
 generalize zS vrsB = zv at *
 rw [xA3 hl,h0,h3,h4,h5]
 apply xB2
 ·simp (maxSteps := 30000000) (disch := first|exact D5|fail) only [pc8,sqA,sqB,a41,WB,ho,hd,↓reduceIte,xBS,hsl,hn,hw,AV.cells,xBB,hx,Nat.reduceAdd]
  rfl
 ·constructor <;> rfl
theorem yEH (hF : Fr F rb ins ix io) (hop : op ≠ 7) (hx : G[ix]? = some (xB op nm av x a b)) (ho : G[io]? = some (.cells false false (foC op))) : ∃ F',run L1 pc8 ⟨F,G⟩ = some (.normal,⟨F',G⟩) ∧ Fr F' rb ins ix io := by
 obtain ⟨hl,h0,h3,h4,h5⟩ := hF
 have lx := xAp hx
 have lio := xAp ho
 unfold foC at ho
 have hd : decide (op = 7) = false := decide_eq_false hop
 rw [xA3 hl,h0,h3,h4,h5]
 apply xB2
 ·simp (disch := omega) only [pc8,sqA,sqB,a41,WB,ho,hd,↓reduceIte]
  rfl
 ·constructor <;> rfl
theorem cl9 (hF : Fr F rb ins ix io) : xAu xAT F = xAI (.ptr rb 0) (.bool ins) (.ptr ix 0) (.ptr io 0) := by
 obtain ⟨hl,h0,h3,h4,h5⟩ := hF
 rw [xA3 hl,h0,h3,h4,h5,xFl]
theorem st9 {G' : Heap} (hF : Fr F rb ins ix io) (e : L1.loop xAT xBb ⟨xAI (.ptr rb 0) (.bool ins) (.ptr ix 0) (.ptr io 0),G⟩ = some (.exit 0,⟨xAI (.ptr rb 0) (.bool ins) (.ptr ix 0) (.ptr io 0),G'⟩)) : ∃ F',run L1 pc9 ⟨F,G⟩ = some (.normal,⟨F',G'⟩) ∧ Fr F' rb ins ix io := by
 have hc := cl9 hF
 refine ⟨xAI (.ptr rb 0) (.bool ins) (.ptr ix 0) (.ptr io 0),?_,?_⟩
 ·simp only [pc9,sqA,sqB,a41,xHg,xGJ]
  rw [hc,e]; rfl
 ·constructor <;> rfl
theorem yAC (hF : Fr F rb ins ix io) (hop : 1 ≤ chn op) (h : RD G rb S at_ lv many) (hS : S.length ≤ 4096) {G2 : Heap} {r : Nat} (h32 : S[at_]? = some 32) (hrec : L1.icall (.func 41 []) [.ptr rb 0] (G.set rb (rdB S (at_ + 1) lv many)) = some (.int .i64 ((r : Nat) : Int),G2)) (hx2 : G2[ix]? = some (xB op nm av x a b)) (ho2 : G2[io]? = some (.cells false false (foC op))) (hx : G[ix]? = some (xB op nm av x a b)) (ho : G[io]? = some (.cells false false (foC op))) : ∃ F',run L1 xPS ⟨F,G⟩ = some (.normal,⟨F',G2.set ix (xB op nm av x (r : Nat) b)⟩) ∧ Fr F' rb ins ix io := by
 obtain ⟨hl,h0,h3,h4,h5⟩ := hF
 have lx := xAp hx
 have lio := xAp ho
 have lo := xAp (show G[rb]? = some _ from h)
 have lx2 := xAp hx2
 have hn : L1.icall (.func 73 []) [.ptr rb 0,.str ⟨#[32]⟩] G = some (.tup [],G.set rb (rdB S (at_ + 1) lv many)) := xCD (cs := [32]) h hS h32 (by decide)
 unfold foC at ho
 have hd : ((0 : Int) < ((chn op : Nat) : Int)) = True := by simp; omega
 rw [xA3 hl,h0,h3,h4,h5]
 apply xB2
 ·simp (maxSteps := 30000000) (disch := first|exact D5|fail) only [xPS,sqA,sqB,a41,WB,ho,hd,↓reduceIte,hn,hrec,AV.cells,hx2,Nat.reduceAdd]
  rfl
 ·constructor <;> rfl
theorem yAD (hF : Fr F rb ins ix io) (hop : ¬ 1 ≤ chn op) (hx : G[ix]? = some (xB op nm av x a b)) (ho : G[io]? = some (.cells false false (foC op))) : ∃ F',run L1 xPS ⟨F,G⟩ = some (.normal,⟨F',G⟩) ∧ Fr F' rb ins ix io := by
 obtain ⟨hl,h0,h3,h4,h5⟩ := hF
 have lx := xAp hx
 have lio := xAp ho
 unfold foC at ho
 have hcs := xBF op
 have hd : ((0 : Int) < ((chn op : Nat) : Int)) = False := by simp; omega
 rw [xA3 hl,h0,h3,h4,h5]
 apply xB2
 ·simp (maxSteps := 30000000) (disch := first|exact D5|fail) only [xPS,sqA,sqB,a41,WB,ho,hd,↓reduceIte]
  rfl
 ·constructor <;> rfl
theorem yAE (hF : Fr F rb ins ix io) (hop : chn op = 2) (h : RD G rb S at_ lv many) (hS : S.length ≤ 4096) {G2 : Heap} {r : Nat} (h32 : S[at_]? = some 32) (hrec : L1.icall (.func 41 []) [.ptr rb 0] (G.set rb (rdB S (at_ + 1) lv many)) = some (.int .i64 ((r : Nat) : Int),G2)) (hx2 : G2[ix]? = some (xB op nm av x a b)) (ho2 : G2[io]? = some (.cells false false (foC op))) (hx : G[ix]? = some (xB op nm av x a b)) (ho : G[io]? = some (.cells false false (foC op))) : ∃ F',run L1 xPT ⟨F,G⟩ = some (.normal,⟨F',G2.set ix (xB op nm av x a (r : Nat))⟩) ∧ Fr F' rb ins ix io := by
 obtain ⟨hl,h0,h3,h4,h5⟩ := hF
 have lx := xAp hx
 have lio := xAp ho
 have lo := xAp (show G[rb]? = some _ from h)
 have lx2 := xAp hx2
 have hn : L1.icall (.func 73 []) [.ptr rb 0,.str ⟨#[32]⟩] G = some (.tup [],G.set rb (rdB S (at_ + 1) lv many)) := xCD (cs := [32]) h hS h32 (by decide)
 unfold foC at ho
 have hd : ((1 : Int) < ((chn op : Nat) : Int)) = True := by simp; omega
 rw [xA3 hl,h0,h3,h4,h5]
 apply xB2
 ·simp (maxSteps := 30000000) (disch := first|exact D5|fail) only [xPT,sqA,sqB,a41,WB,ho,hd,↓reduceIte,hn,hrec,AV.cells,hx2,Nat.reduceAdd]
  rfl
 ·constructor <;> rfl
theorem yAF (hF : Fr F rb ins ix io) (hop : ¬ chn op = 2) (hx : G[ix]? = some (xB op nm av x a b)) (ho : G[io]? = some (.cells false false (foC op))) : ∃ F',run L1 xPT ⟨F,G⟩ = some (.normal,⟨F',G⟩) ∧ Fr F' rb ins ix io := by
 obtain ⟨hl,h0,h3,h4,h5⟩ := hF
 have lx := xAp hx
 have lio := xAp ho
 unfold foC at ho
 have hcs := xBF op
 have hd : ((1 : Int) < ((chn op : Nat) : Int)) = False := by simp; omega
 rw [xA3 hl,h0,h3,h4,h5]
 apply xB2
 ·simp (maxSteps := 30000000) (disch := first|exact D5|fail) only [xPT,sqA,sqB,a41,WB,ho,hd,↓reduceIte]
  rfl
 ·constructor <;> rfl
theorem yCN (hF : Fr F rb ins ix io) (hi : ins = true) (h : RD G rb S at_ lv many) (hS : S.length ≤ 4096) (h41 : S[at_]? = some 41) : ∃ F',run L1 xUz ⟨F,G⟩ = some (.normal,⟨F',G.set rb (rdB S (at_ + 1) lv many)⟩) ∧ Fr F' rb ins ix io := by
 obtain ⟨hl,h0,h3,h4,h5⟩ := hF
 subst hi
 have hn : L1.icall (.func 73 []) [.ptr rb 0,.str ⟨#[41]⟩] G = some (.tup [],G.set rb (rdB S (at_ + 1) lv many)) := xCD (cs := [41]) h hS h41 (by decide)
 rw [xA3 hl,h0,h3,h4,h5]
 apply xB2
 ·simp (disch := omega) only [xUz,sqA,sqB,a41,WB,↓reduceIte,hn]
  rfl
 ·constructor <;> rfl
theorem yCO (hF : Fr F rb ins ix io) (hi : ins = false) : ∃ F',run L1 xUz ⟨F,G⟩ = some (.normal,⟨F',G⟩) ∧ Fr F' rb ins ix io := by
 obtain ⟨hl,h0,h3,h4,h5⟩ := hF
 subst hi
 rw [xA3 hl,h0,h3,h4,h5]
 apply xB2
 ·simp (disch := omega) only [xUz,sqA,sqB,a41,WB,↓reduceIte]
  rfl
 ·constructor <;> rfl
end
def nb (lv : AV) (b : Nat) : Prop := ∀ o m,lv = .own false o 0 m 6 → b ≠ o
def Keep (G0 : Heap) (lv : AV) (rb : Nat) (G : Heap) : Prop := G0.length ≤ G.length ∧ ∀ b,b < G0.length → b ≠ rb → nb lv b → G[b]? = G0[b]?
theorem Kt.keep {G0 G : Heap} {rb : Nat} (lv : AV) (h : Kt G0.length rb G0 G) : Keep G0 lv rb G := ⟨h.1,fun b hb hr _ => h.2 b hb hr⟩
theorem Keep.refl (G0 : Heap) (lv : AV) (rb : Nat) : Keep G0 lv rb G0 := ⟨Nat.le_refl _,fun _ _ _ _ => rfl⟩
theorem Keep.kt {G0 G G' : Heap} {lv : AV} {rb : Nat} (h : Keep G0 lv rb G) (h2 : Kt G.length rb G G') : Keep G0 lv rb G' := ⟨Nat.le_trans h.1 h2.1,fun b hb hr hn => (h2.2 b (Nat.lt_of_lt_of_le hb h.1) hr).trans (h.2 b hb hr hn)⟩
theorem Keep.low {G0 G G' : Heap} {lv : AV} {rb : Nat} (h : Keep G0 lv rb G) (h2 : Kt G0.length rb G G') : Keep G0 lv rb G' := ⟨Nat.le_trans h.1 h2.1,fun b hb hr hn => (h2.2 b hb hr).trans (h.2 b hb hr hn)⟩
theorem Keep.trans {G0 G G' : Heap} {lv lv' : AV} {rb : Nat} (h : Keep G0 lv rb G) (h2 : Keep G lv' rb G') (hn : ∀ b,b < G0.length → nb lv b → nb lv' b) : Keep G0 lv rb G' := ⟨Nat.le_trans h.1 h2.1,fun b hb hr hb2 => (h2.2 b (Nat.lt_of_lt_of_le hb h.1) hr (hn b hb hb2)).trans (h.2 b hb hr hb2)⟩
def PA1 (G : Heap) (X : Nat → Prop) (lv : AV) (args : List Int) (av : AV) : Prop := (args = [] ∧ av = .sl true 0 []) ∨ ∃ k,av = .own false k 0 args.length 1 ∧ G[k]? = some (.cells false false (xAG args)) ∧ args ≠ [] ∧ ¬ X k ∧ nb lv k
def xIf (p : Nd × AV) : List AV := [.int .u8 (p.1.op : Nat),.int .i64 p.1.name,p.2,.int .i64 p.1.x,.int .i64 p.1.a,.int .i64 p.1.b]
theorem xK0 (ps : List (Nd × AV)) : (ps.flatMap xIf).length = ps.length * 6 := by
 induction ps with
 | nil => rfl
 | cons p ps ih => rw [List.flatMap_cons,List.length_append,ih,List.length_cons]; show 6 + _ = _; omega
def PL (G : Heap) (X : Nat → Prop) (lv : AV) (l : List Nd) : Prop := ∃ ps : List (Nd × AV),l = ps.map Prod.fst ∧ (∀ p ∈ ps,PA1 G X lv p.1.args p.2) ∧ ((ps = [] ∧ lv = .sl true 0 []) ∨ ∃ ol,lv = .own false ol 0 ps.length 6 ∧ G[ol]? = some (.cells false false (ps.flatMap xIf)) ∧ ps ≠ [] ∧ ¬ X ol)
theorem PL.keep {G G' : Heap} {X : Nat → Prop} {lv : AV} {l : List Nd} (h : PL G X lv l) (hk : ∀ b,b < G.length → ¬ X b → G'[b]? = G[b]?) : PL G' X lv l := by
 obtain ⟨ps,h1,h2,h3⟩ := h
 refine ⟨ps,h1,fun p hp => ?_,?_⟩
 ·rcases h2 p hp with g | ⟨k,g1,g2,g3,g4,g5⟩
  ·exact .inl g
  ·exact .inr ⟨k,g1,(hk k (xAp g2) g4).trans g2,g3,g4,g5⟩
 ·rcases h3 with h3 | ⟨ol,g1,g2,g3,g4⟩
  ·exact .inl h3
  ·exact .inr ⟨ol,g1,(hk ol (xAp g2) g4).trans g2,g3,g4⟩
theorem PL.kt {G G' : Heap} {X : Nat → Prop} {rb : Nat} {lv : AV} {l : List Nd} (h : PL G X lv l) (hX : X rb) (hk : Kt G.length rb G G') : PL G' X lv l := h.keep fun b hb hn => hk.2 b hb fun e => hn (e ▸ hX)
theorem PL.mono {G : Heap} {X X' : Nat → Prop} {lv : AV} {l : List Nd} (h : PL G X lv l) (hX : ∀ b,b < G.length → ¬ X b → ¬ X' b) : PL G X' lv l := by
 obtain ⟨ps,h1,h2,h3⟩ := h
 refine ⟨ps,h1,fun p hp => ?_,?_⟩
 ·rcases h2 p hp with g | ⟨k,g1,g2,g3,g4,g5⟩
  ·exact .inl g
  ·exact .inr ⟨k,g1,g2,g3,hX k (xAp g2) g4,g5⟩
 ·rcases h3 with h3 | ⟨ol,g1,g2,g3,g4⟩
  ·exact .inl h3
  ·exact .inr ⟨ol,g1,g2,g3,hX ol (xAp g2) g4⟩
theorem PL.nb {G : Heap} {X : Nat → Prop} {lv : AV} {l : List Nd} (h : PL G X lv l) {b : Nat} (hb : X b) : nb lv b := by
 obtain ⟨ps,h1,h2,h3⟩ := h
 intro o m e
 rcases h3 with h3 | ⟨ol,g1,g2,g3,g4⟩
 ·rw [h3.2] at e; cases e
 ·rw [g1] at e; cases e; intro q; exact g4 (q ▸ hb)
theorem PL.lt {G : Heap} {X : Nat → Prop} {lv : AV} {l : List Nd} (h : PL G X lv l) : ∀ o m,lv = .own false o 0 m 6 → o < G.length := by
 obtain ⟨ps,h1,h2,h3⟩ := h
 intro o m e
 rcases h3 with h3 | ⟨ol,g1,g2,g3,g4⟩
 ·rw [h3.2] at e; cases e
 ·rw [g1] at e; cases e; exact xAp g2
def PC (N M : Nat) (G : Heap) (rb ix io : Nat) (us : List Int) (av : AV) : Prop := (us = [] ∧ av = .sl true 0 []) ∨ ∃ k,av = .own false k 0 us.length 1 ∧ G[k]? = some (.cells false false (xAG us)) ∧ us ≠ [] ∧ N ≤ k ∧ k < M ∧ k ≠ rb ∧ k ≠ ix ∧ k ≠ io
theorem PC.keep {N M : Nat} {G G' : Heap} {rb ix io : Nat} {us : List Int} {av : AV} (h : PC N M G rb ix io us av) (hk : ∀ b,N ≤ b → b < M → b ≠ rb → b ≠ ix → G'[b]? = G[b]?) : PC N M G' rb ix io us av := by
 rcases h with h | ⟨k,h1,h2,h3,h4,h5,h6,h7,h8⟩
 ·exact .inl h
 ·exact .inr ⟨k,h1,(hk k h4 h5 h6 h7).trans h2,h3,h4,h5,h6,h7,h8⟩
structure XS (G0 : Heap) (lv0 : AV) (G : Heap) (rb ix io : Nat) (S : List UInt8) (at_ : Nat) (r : List UInt8) (lv : AV) (many op : Nat) (nm : Int) (av : AV) (x a b : Int) : Prop where
 rd : RD G rb S at_ lv many
 dr : S.drop at_ = r
 al : at_ ≤ S.length
 hx : G[ix]? = some (xB op nm av x a b)
 ho : G[io]? = some (.cells false false (foC op))
 kp : Keep G0 lv0 rb G
 b1 : G0.length ≤ ix
 b2 : G0.length ≤ io
 n1 : rb ≠ ix
 n2 : rb ≠ io
 n3 : ix ≠ io
section
variable {F : List AV} {G0 G : Heap} {rb ix io at_ many op : Nat} {S r r' : List UInt8} {lv0 lv av : AV} {ins : Bool} {nm x a b : Int} {c : UInt8}
theorem yAG (h : RD G rb S at_ lv many) (n1 : rb ≠ ix) (B : Blk) (at' : Nat) (many' : Nat) : RD ((G.set rb (rdB S at' lv many')).set ix B) rb S at' lv many' := by
 have lo := xAp (show G[rb]? = some _ from h)
 unfold RD
 rw [List.getElem?_set_ne (Ne.symm n1),List.getElem?_set_self lo]
theorem xTV {cs : List UInt8} {t : Nat} (hd : S.drop at_ = r) (h : xIj cs r = .ok t r') : ∃ c,S[at_]? = some 32 ∧ S[at_ + 1]? = some c ∧ cs.contains c = true ∧ t = cs.idxOf c ∧ S.drop (at_ + 2) = r' ∧ at_ + 2 ≤ S.length := by
 obtain ⟨c,rfl,h1,h2⟩ := xCN h
 obtain ⟨a1,a2,a3⟩ := xAX hd
 obtain ⟨b1,b2,b3⟩ := xAX a2
 exact ⟨c,a1,b1,h1,h2,b2,b3⟩
theorem XS.two (hX : XS G0 lv0 G rb ix io S at_ r lv many op nm av x a b) {at' : Nat} (hd : S.drop at' = r') (hal : at' ≤ S.length) {nm' : Int} {av' : AV} {x' a' b' : Int} : XS G0 lv0 ((G.set rb (rdB S at' lv many)).set ix (xB op nm' av' x' a' b')) rb ix io S at' r' lv many op nm' av' x' a' b' where
 rd := yAG hX.rd hX.n1 _ _ _
 dr := hd
 al := hal
 hx := by rw [List.getElem?_set_self]; simpa using xAp hX.hx
 ho := by rw [List.getElem?_set_ne hX.n3,List.getElem?_set_ne hX.n2]; exact hX.ho
 kp := (hX.kp.low Kt.set).low (Kp.set hX.b1).kt
 b1 := hX.b1
 b2 := hX.b2
 n1 := hX.n1
 n2 := hX.n2
 n3 := hX.n3
theorem XS.on (hX : XS G0 lv0 G rb ix io S at_ r lv many op nm av x a b) {at' : Nat} (hd : S.drop at' = r') (hal : at' ≤ S.length) : XS G0 lv0 (G.set rb (rdB S at' lv many)) rb ix io S at' r' lv many op nm av x a b where
 rd := by unfold RD; rw [List.getElem?_set_self (xAp (show G[rb]? = some _ from hX.rd))]
 dr := hd
 al := hal
 hx := by rw [List.getElem?_set_ne hX.n1]; exact hX.hx
 ho := by rw [List.getElem?_set_ne hX.n2]; exact hX.ho
 kp := hX.kp.low Kt.set
 b1 := hX.b1
 b2 := hX.b2
 n1 := hX.n1
 n2 := hX.n2
 n3 := hX.n3
theorem g7 (hS : S.length ≤ 4096) (hF : Fr F rb ins ix io) (hX : XS G0 lv0 G rb ix io S at_ r lv many op 0 av x a b) {n : Nat} (hp : (if op = 2 then xIj nmsB r else .ok 0 r) = .ok n r') :
  ∃ F' G' at',run L1 pc7 ⟨F,G⟩ = some (.normal,⟨F',G'⟩) ∧ Fr F' rb ins ix io ∧ XS G0 lv0 G' rb ix io S at' r' lv many op (n : Nat) av x a b ∧ Kt G0.length rb G G' := by
 by_cases h2 : op = 2
 ·rw [if_pos h2] at hp
  obtain ⟨c,h1,h3,h4,rfl,h5,h6⟩ := xTV hX.dr hp
  obtain ⟨F',e,f⟩ := yEE hF h2 hX.rd hS h1 h3 h4 hX.hx hX.ho hX.n1 hX.n2 hX.n3
  exact ⟨F',_,_,e,f,hX.two h5 h6,(Kt.set).trans (Kp.set hX.b1).kt⟩
 ·rw [if_neg h2] at hp
  cases hp
  obtain ⟨F',e,f⟩ := yEF hF h2 hX.hx hX.ho
  exact ⟨F',_,at_,e,f,hX,.refl _ _ _⟩
theorem g8 (hS : S.length ≤ 4096) (hF : Fr F rb ins ix io) (hX : XS G0 lv0 G rb ix io S at_ r lv many op nm av 0 a b) {n : Nat} (hp : (if op = 7 then (xIj vrsB r).bind fun v r => .ok (8 + v) r else .ok 0 r) = .ok n r') :
  ∃ F' G' at',run L1 pc8 ⟨F,G⟩ = some (.normal,⟨F',G'⟩) ∧ Fr F' rb ins ix io ∧ XS G0 lv0 G' rb ix io S at' r' lv many op nm av (n : Nat) a b ∧ Kt G0.length rb G G' := by
 by_cases h2 : op = 7
 ·rw [if_pos h2] at hp
  obtain ⟨v,q,hp,hq⟩ := xAB hp
  cases hq
  obtain ⟨c,h1,h3,h4,rfl,h5,h6⟩ := xTV hX.dr hp
  obtain ⟨F',e,f⟩ := yEG hF h2 hX.rd hS h1 h3 h4 hX.hx hX.ho hX.n1 hX.n2 hX.n3
  exact ⟨F',_,_,e,f,hX.two h5 h6,(Kt.set).trans (Kp.set hX.b1).kt⟩
 ·rw [if_neg h2] at hp
  cases hp
  obtain ⟨F',e,f⟩ := yEH hF h2 hX.hx hX.ho
  exact ⟨F',_,at_,e,f,hX,.refl _ _ _⟩
theorem g9 (hS : S.length ≤ 4096) (hF : Fr F rb ins ix io) (hX : XS G0 lv0 G rb ix io S at_ r lv many op nm (.sl true 0 []) x a b) {us : List Int} (hp : xCs (fhi op) (flo op) r = .ok us r') :
  ∃ F' G' at' av',run L1 pc9 ⟨F,G⟩ = some (.normal,⟨F',G'⟩) ∧ Fr F' rb ins ix io ∧ XS G0 lv0 G' rb ix io S at' r' lv many op nm av' x a b ∧ Kt G0.length rb G G' ∧ PC G0.length G'.length G' rb ix io us av' := by
 obtain ⟨G',at',av',e1,e2,e3,e3',e4,e5,e6,e7⟩ := xZU (B := G0.length) (lv := lv) (s3 := .bool ins) hS hX.n1 hX.n2 hX.n3 hX.b1 hX.b2 (fhi op) G at_ (.sl true 0 []) [] us r r' hX.rd hX.dr hX.al (by simp) (by simpa using hp) hX.hx hX.ho (.inl ⟨rfl,rfl⟩)
 obtain ⟨F',e,f⟩ := st9 hF e1
 rw [List.nil_append] at e6
 refine ⟨F',G',at',av',e,f,⟨e2,e3,e3',e4,e5,hX.kp.low e7,hX.b1,hX.b2,hX.n1,hX.n2,hX.n3⟩,e7,?_⟩
 rcases e6 with e6 | ⟨ka,g1,g2,g3,g4,g5,g6,g7⟩
 ·exact .inl e6
 ·exact .inr ⟨ka,g1,g2,g3,g4,xAp g2,g5,g6,g7⟩
def yAH (rb : Nat) (S : List UInt8) (k : Nat) : Prop := ∀ (many : Nat) (l : List Nd) (r : List UInt8) (m' : Nat) (l' : List Nd) (r' : List UInt8) (G : Heap) (at_ : Nat) (lv : AV) (X : Nat → Prop),RD G rb S at_ lv many → S.drop at_ = r → at_ ≤ S.length → PL G X lv l → X rb → (∀ b,X b → b < G.length) → l.length ≤ many → many ≤ 64 → xCh k many l r = .ok (m',l') r' →
  ∃ G' at' ol,L1.icall (.func 41 []) [.ptr rb 0] G = some (.int .i64 ((l'.length - 1 : Nat) : Int),G') ∧ RD G' rb S at' (.own false ol 0 l'.length 6) m' ∧ S.drop at' = r' ∧ at' ≤ S.length ∧ PL G' X (.own false ol 0 l'.length 6) l' ∧ l'.length + many ≤ m' + l.length ∧ m' ≤ 64 ∧ l.length < l'.length ∧ G.length ≤ ol ∧ Keep G lv rb G'
theorem xVM {k M : Nat} {X : Nat → Prop} (hS : S.length ≤ 4096) (hrec : yAH rb S k) (hX : XS G0 lv0 G rb ix io S at_ r lv many op nm av x a b) {l l' : List Nd} {m' : Nat} (hPL : PL G X lv l) (hXb : ∀ b,X b → b < M) (hXM : ∀ b,G0.length ≤ b → b < M → X b) (hM : M ≤ G.length) (hXr : X rb) (hix : ix < M) (hio : io < M) (hlm : l.length ≤ many) (hm64 : many ≤ 64) {us : List Int} (hPC : PC G0.length M G rb ix io us av) (hnb : ∀ b,b < G0.length → nb lv0 b → nb lv b)
  (hp : ((xBV 32 r).bind fun _ r => xCh k many l r) = .ok (m',l') r') :
  ∃ G2 at' ol,S[at_]? = some 32 ∧ L1.icall (.func 41 []) [.ptr rb 0] (G.set rb (rdB S (at_ + 1) lv many)) = some (.int .i64 ((l'.length - 1 : Nat) : Int),G2) ∧ XS G0 lv0 G2 rb ix io S at' r' (.own false ol 0 l'.length 6) m' op nm av x a b ∧ PL G2 X (.own false ol 0 l'.length 6) l' ∧ l'.length + many ≤ m' + l.length ∧ m' ≤ 64 ∧ l.length < l'.length ∧ G0.length ≤ ol ∧ PC G0.length M G2 rb ix io us av ∧ M ≤ G2.length := by
 obtain ⟨u,q,hp1,hp2⟩ := xAB hp
 have hr := xBx hp1
 obtain ⟨a1,a2,a3⟩ := xAX (hX.dr.trans hr)
 have lo := xAp (show G[rb]? = some _ from hX.rd)
 have hX1 := hX.on a2 a3
 obtain ⟨G2,at',ol,e1,e2,e3,e3',e4,e5,e6,e7,e8,e9⟩ := hrec many l q m' l' r' (G.set rb (rdB S (at_ + 1) lv many)) (at_ + 1) lv X hX1.rd a2 a3 (hPL.kt hXr Kt.set) hXr (fun b hb => by rw [List.length_set]; exact Nat.lt_of_lt_of_le (hXb b hb) hM) hlm hm64 hp2
 have hGl : (G.set rb (rdB S (at_ + 1) lv many)).length = G.length := List.length_set
 rw [hGl] at e8
 have nbM : ∀ b,G0.length ≤ b → b < M → nb lv b := fun b h1 h2 => hPL.nb (hXM b h1 h2)
 have kept : ∀ b,G0.length ≤ b → b < M → b ≠ rb → G2[b]? = G[b]? := fun b h1 h2 h3 => by
  rw [e9.2 b (by rw [hGl]; omega) h3 (nbM b h1 h2),List.getElem?_set_ne (Ne.symm h3)]
 refine ⟨G2,at',ol,a1,e1,⟨e2,e3,e3',?_,?_,?_,hX.b1,hX.b2,hX.n1,hX.n2,hX.n3⟩,e4,e5,e6,e7,Nat.le_trans hX.kp.1 e8,?_,?_⟩
 ·rw [kept ix hX.b1 hix (Ne.symm hX.n1)]; exact hX.hx
 ·rw [kept io hX.b2 hio (Ne.symm hX.n2)]; exact hX.ho
 ·exact hX1.kp.trans e9 hnb
 ·exact hPC.keep fun b h1 h2 h3 _ => kept b h1 h2 h3
 ·have := e9.1; rw [hGl] at this; omega
theorem XS.setx (hX : XS G0 lv0 G rb ix io S at_ r lv many op nm av x a b) {a' b' : Int} : XS G0 lv0 (G.set ix (xB op nm av x a' b')) rb ix io S at_ r lv many op nm av x a' b' where
 rd := by unfold RD; rw [List.getElem?_set_ne (Ne.symm hX.n1)]; exact hX.rd
 dr := hX.dr
 al := hX.al
 hx := by rw [List.getElem?_set_self (xAp hX.hx)]
 ho := by rw [List.getElem?_set_ne hX.n3]; exact hX.ho
 kp := hX.kp.low (Kp.set hX.b1).kt
 b1 := hX.b1
 b2 := hX.b2
 n1 := hX.n1
 n2 := hX.n2
 n3 := hX.n3
theorem PL.setx {X : Nat → Prop} {l : List Nd} {B : Blk} (h : PL G X lv l) (hx : X ix) : PL (G.set ix B) X lv l := h.keep fun b _ hn => List.getElem?_set_ne fun e => by subst e; exact hn hx
theorem PC.setx {N M : Nat} {us : List Int} {B : Blk} (h : PC N M G rb ix io us av) : PC N M (G.set ix B) rb ix io us av := h.keep fun b _ _ _ h4 => List.getElem?_set_ne (Ne.symm h4)
end
theorem xIa {ins : Bool} {r r' : List UInt8} {op : Nat} (h : xFH ins r = .ok op r') : ∃ c q,r = c :: q ∧ (c == 61 || smB c) = true ∧ pop (xA0 r) ins = some op ∧ r' = r.drop (xA0 r).length := by
 unfold xFH at h
 obtain ⟨c,q,h1,h2⟩ := xAB h
 obtain ⟨q',rfl,rfl,hp⟩ := xCE h1
 split at h2
 ·rename_i op' ho
  cases h2
  exact ⟨c,q',rfl,hp,ho,rfl⟩
 ·cases h2
theorem xIb (r : List UInt8) : r = xA0 r ++ r.drop (xA0 r).length := by
 unfold xA0
 split
 ·rename_i h
  cases r with
  | nil => cases h
  | cons c q => cases h; rfl
 ·conv => lhs; rw [← List.takeWhile_append_dropWhile (p := smB) (l := r)]
  congr 1
  have h := List.takeWhile_append_dropWhile (p := smB) (l := r)
  conv => rhs; rw [← h]
  rw [List.drop_left' (by rw [h])]
theorem xOk {w : List UInt8} {ins : Bool} {op : Nat} (h : pop w ins = some op) : 1 ≤ op ∧ op ≤ 10 ∧ decide (op ≠ 1) = ins := by
 unfold pop at h
 have h1 := List.find?_some h
 have h2 := List.mem_of_find?_eq_some h
 simp only [Bool.and_eq_true,beq_iff_eq] at h1
 refine ⟨?_,?_,h1.2⟩ <;> simp at h2 <;> omega
theorem yAI {r : Option (AExit × St)} {F1 : List AV} {G1 : Heap} {P : List AV → Prop} (h : r = some (.ret,⟨F1,G1⟩)) (hp : P F1) : ∃ F',r = some (.ret,⟨F',G1⟩) ∧ P F' := ⟨F1,h,hp⟩
section
variable {F : List AV} {G0 G : Heap} {rb ix io at_ many op : Nat} {S r r' : List UInt8} {lv0 lv av : AV} {ins : Bool} {nm x a b : Int} {c : UInt8}
theorem yEI {n ol : Nat} (hF : Fr F rb ins ix io) (h : RD G rb S at_ (.own false ol 0 n 6) many) (hn : 0 < n) (hn2 : n ≤ 1000) : ∃ F',run L1 yCM ⟨F,G⟩ = some (.ret,⟨F',G⟩) ∧ F'.getD 2 .any = .int .i64 ((n - 1 : Nat) : Int) := by
 obtain ⟨hl,h0,h3,h4,h5⟩ := hF
 unfold RD at h
 have hs : ((n : Nat) : Int) - 1 = ((n - 1 : Nat) : Int) := by omega
 rw [xA3 hl,h0,h3,h4,h5]
 apply yAI
 ·simp (maxSteps := 30000000) (disch := first|exact D5|fail) only [yCM,sqB,a41,WB,h,hs]
  rfl
 ·rfl
theorem xW6 {G : Heap} {rb : Nat} {v w x y : AV} (h : G[rb]? = some (.cells false false [v,w,x,y])) (hx : xIz 4 x x = true) (B : Blk) : xBR G (G ++ [B]) (.ptr rb 2) 1 = true := by
 have lo := xAp h
 have e : (G ++ [B])[rb]? = G[rb]? := List.getElem?_append_left lo
 have e2 : rd (G ++ [B]) (.ptr rb 2) 1 = rd G (.ptr rb 2) 1 := by simp only [rd,e]
 have e3 : rd G (.ptr rb 2) 1 = some [x] := by simp [rd,h]
 unfold xBR
 rw [e2,e3]; simp [hx]
theorem yCP {us : List Int} (hF : Fr F rb ins ix io) (h : RD G rb S at_ (.sl true 0 []) many) (hx : G[ix]? = some (xB op nm av x a b)) (n1 : rb ≠ ix) (hav : av = .sl true 0 [] ∨ ∃ k,av = .own false k 0 us.length 1) :
  ∃ F',run L1 xW5 ⟨F,G⟩ = some (.normal,⟨F',G.set rb (rdB S at_ (.own false (G.length + 1) 0 1 6) many) ++ [.cells false false [.int .u8 (op : Nat),.int .i64 nm,av,.int .i64 x,.int .i64 a,.int .i64 b],.cells false false [.int .u8 (op : Nat),.int .i64 nm,av,.int .i64 x,.int .i64 a,.int .i64 b]]⟩) ∧ Fr F' rb ins ix io := by
 obtain ⟨hl,h0,h3,h4,h5⟩ := hF
 unfold RD at h
 have lo := xAp h
 have lx := xAp hx
 have hrd := xW6 h (by simp [xIz])
 rw [xA3 hl,h0,h3,h4,h5]
 rcases hav with rfl | ⟨k,rfl⟩
 ·apply xB2
  ·simp (maxSteps := 30000000) (disch := first|exact D5|fail) only [xW5,sqA,sqB,a41,WH,WB,WP,↓reduceIte,h,hx,Nat.reduceSub,AV.cells,Nat.reduceAdd,Nat.reduceMul,AV.isCell,hrd,xBT,Nat.reduceBEq,xA1,xEm]
   rfl
  ·constructor <;> rfl
 ·apply xB2
  ·simp (maxSteps := 30000000) (disch := first|exact D5|fail) only [xW5,sqA,sqB,a41,WH,WB,WP,↓reduceIte,h,hx,Nat.reduceSub,AV.cells,Nat.reduceAdd,Nat.reduceMul,AV.isCell,hrd,xBT,Nat.reduceBEq,xA1,xEm]
   rfl
  ·constructor <;> rfl
theorem yCQ {us : List Int} {ol n : Nat} {C : List AV} (hF : Fr F rb ins ix io) (h : RD G rb S at_ (.own false ol 0 n 6) many) (hx : G[ix]? = some (xB op nm av x a b)) (n1 : rb ≠ ix) (n2 : ol ≠ ix) (n3 : ol ≠ rb) (ho : G[ol]? = some (.cells false false C)) (hC : C.length = n * 6) (hn : n ≤ 1000) (hav : av = .sl true 0 [] ∨ ∃ k,av = .own false k 0 us.length 1) :
  ∃ F',run L1 xW5 ⟨F,G⟩ = some (.normal,⟨F',List.set (G.set ol .dead) rb (rdB S at_ (.own false (G.length + 1) 0 (n + 1) 6) many) ++ [.cells false false [.int .u8 (op : Nat),.int .i64 nm,av,.int .i64 x,.int .i64 a,.int .i64 b],.cells false false (C ++ [.int .u8 (op : Nat),.int .i64 nm,av,.int .i64 x,.int .i64 a,.int .i64 b])]⟩) ∧ Fr F' rb ins ix io := by
 obtain ⟨hl,h0,h3,h4,h5⟩ := hF
 unfold RD at h
 have lo := xAp h
 have lx := xAp hx
 have ll := xAp ho
 have hrd := xW6 h (by simp [xIz])
 have htk : List.take (n * 6) C = C := List.take_of_length_le (by omega)
 have hle : n * 6 ≤ C.length := by omega
 rw [xA3 hl,h0,h3,h4,h5]
 rcases hav with rfl | ⟨k,rfl⟩
 ·apply xB2
  ·simp (maxSteps := 30000000) (disch := first|exact D5|fail) only [xW5,sqA,sqB,a41,WH,WB,WP,↓reduceIte,h,hx,Nat.reduceSub,AV.cells,Nat.reduceAdd,Nat.reduceMul,AV.isCell,hrd,xBT,xA1,ho,Nat.reduceBEq,xEm,htk,xBB]
   rfl
  ·constructor <;> rfl
 ·apply xB2
  ·simp (maxSteps := 30000000) (disch := first|exact D5|fail) only [xW5,sqA,sqB,a41,WH,WB,WP,↓reduceIte,h,hx,Nat.reduceSub,AV.cells,Nat.reduceAdd,Nat.reduceMul,AV.isCell,hrd,xBT,xA1,ho,Nat.reduceBEq,xEm,htk,xBB]
   rfl
  ·constructor <;> rfl
theorem xTW {G G' : Heap} {X : Nat → Prop} {lv av : AV} {rb ol : Nat} {ps : List (Nd × AV)} {n : Nd} (hk : ∀ b,b < G.length → b ≠ rb → nb lv b → G'[b]? = G[b]?) (hXr : X rb) (hXb : ∀ b,X b → b < G.length) (hps : ∀ p ∈ ps,PA1 G X lv p.1.args p.2) (hPA : PA1 G X lv n.args av) (hol : G.length ≤ ol) (ho : G'[ol]? = some (.cells false false ((ps ++ [(n,av)]).flatMap xIf))) :
  PL G' X (.own false ol 0 (ps.length + 1) 6) (ps.map Prod.fst ++ [n]) := by
 have hp : ∀ (us : List Int) (w : AV),PA1 G X lv us w → PA1 G' X (.own false ol 0 (ps.length + 1) 6) us w := by
  intro us w h
  rcases h with h | ⟨k,h1,h2,h3,h4,h5⟩
  ·exact .inl h
  ·have hl := xAp h2
   exact .inr ⟨k,h1,(hk k hl (fun e => h4 (e ▸ hXr)) h5).trans h2,h3,h4,fun o m e => by cases e; omega⟩
 refine ⟨ps ++ [(n,av)],by simp,?_,.inr ⟨ol,by simp,ho,by simp,fun q => by have := hXb ol q; omega⟩⟩
 intro p hpm
 rcases List.mem_append.1 hpm with q | q
 ·exact hp _ _ (hps p q)
 ·obtain rfl := List.mem_singleton.1 q
  exact hp _ _ hPA
theorem yEJ {us : List Int} {l : List Nd} {X : Nat → Prop} (hF : Fr F rb ins ix io) (h : RD G rb S at_ lv many) (hx : G[ix]? = some (xB op nm av x a b)) (n1 : rb ≠ ix) (nbx : nb lv ix) (hPL : PL G X lv l) (hXr : X rb) (hXb : ∀ b,X b → b < G.length) (hPA : PA1 G X lv us av) (hn : l.length ≤ 1000) :
  ∃ F' G' ol,run L1 xW5 ⟨F,G⟩ = some (.normal,⟨F',G'⟩) ∧ Fr F' rb ins ix io ∧ RD G' rb S at_ (.own false ol 0 (l.length + 1) 6) many ∧ PL G' X (.own false ol 0 (l.length + 1) 6) (l ++ [⟨op,nm,us.isEmpty,us,x,a,b⟩]) ∧ G.length ≤ ol ∧ Keep G lv rb G' := by
 have lo := xAp (show G[rb]? = some _ from h)
 have hav : av = .sl true 0 [] ∨ ∃ k,av = .own false k 0 us.length 1 := by
  rcases hPA with q | ⟨k,q,_⟩
  ·exact .inl q.2
  ·exact .inr ⟨k,q⟩
 obtain ⟨ps,rfl,h2,h3⟩ := hPL
 rw [List.length_map] at hn ⊢
 rcases h3 with ⟨rfl,rfl⟩ | ⟨ol,rfl,g2,g3,g4⟩
 ·obtain ⟨F',e,f⟩ := yCP hF h hx n1 hav
  have hk : ∀ b',b' < G.length → b' ≠ rb → (G.set rb (rdB S at_ (.own false (G.length + 1) 0 1 6) many) ++ [.cells false false [.int .u8 (op : Nat),.int .i64 nm,av,.int .i64 x,.int .i64 a,.int .i64 b],.cells false false [.int .u8 (op : Nat),.int .i64 nm,av,.int .i64 x,.int .i64 a,.int .i64 b]])[b']? = G[b']? := by
   intro b' hb hr
   rw [List.getElem?_append_left (by simpa using hb),List.getElem?_set_ne (Ne.symm hr)]
  refine ⟨F',_,G.length + 1,e,f,?_,?_,by omega,⟨by simp,fun b' hb hr _ => hk b' hb hr⟩⟩
  ·unfold RD
   rw [List.getElem?_append_left (by simpa using lo),List.getElem?_set_self lo]; rfl
  ·refine xTW (G := G) (lv := .sl true 0 []) (rb := rb) (ps := []) (fun b' hb hr _ => hk b' hb hr) hXr hXb h2 hPA (by omega) ?_
   rw [List.getElem?_append_right (by simp)]
   simp [xIf]
 ·have n3 : ol ≠ rb := fun q => g4 (q ▸ hXr)
  have n2 : ol ≠ ix := fun q => nbx ol ps.length rfl q.symm
  obtain ⟨F',e,f⟩ := yCQ hF h hx n1 n2 n3 g2 (xK0 ps) hn hav
  have hk : ∀ b',b' < G.length → b' ≠ rb → b' ≠ ol → (List.set (G.set ol .dead) rb (rdB S at_ (.own false (G.length + 1) 0 (ps.length + 1) 6) many) ++ [.cells false false [.int .u8 (op : Nat),.int .i64 nm,av,.int .i64 x,.int .i64 a,.int .i64 b],.cells false false (ps.flatMap xIf ++ [.int .u8 (op : Nat),.int .i64 nm,av,.int .i64 x,.int .i64 a,.int .i64 b])])[b']? = G[b']? := by
   intro b' hb hr h4
   rw [List.getElem?_append_left (by simpa using hb),List.getElem?_set_ne (Ne.symm hr),List.getElem?_set_ne (Ne.symm h4)]
  refine ⟨F',_,G.length + 1,e,f,?_,?_,by omega,⟨by simp,fun b' hb hr hn => hk b' hb hr (hn ol ps.length rfl)⟩⟩
  ·unfold RD
   rw [List.getElem?_append_left (by simpa using lo),List.getElem?_set_self (by simpa using lo)]
  ·refine xTW (G := G) (lv := .own false ol 0 ps.length 6) (rb := rb) (ps := ps) (fun b' hb hr hn => hk b' hb hr (hn ol ps.length rfl)) hXr hXb h2 hPA (by omega) ?_
   rw [List.getElem?_append_right (by simp)]
   simp [xIf]
end
theorem xPU {n : Nat} (rb : Nat) (h : n = 133) : FrA ([.ptr rb 0] ++ pads n) rb := by
 subst h
 exact ⟨rfl,rfl⟩
theorem PC.pa1 {N M : Nat} {G : Heap} {rb ix io : Nat} {us : List Int} {av lv : AV} {X X' : Nat → Prop} {l : List Nd} (h : PC N M G rb ix io us av) (hX : ∀ b,X b → b < N) (hX' : ∀ b,N ≤ b → b < M → X' b) (hPL : PL G X' lv l) : PA1 G X lv us av := by
 rcases h with h | ⟨k,h1,h2,h3,h4,h5,h6,h7,h8⟩
 ·exact .inl h
 ·exact .inr ⟨k,h1,h2,h3,fun q => by have := hX k q; omega,hPL.nb (hX' k h4 h5)⟩
theorem yCR {F : List AV} {G : Heap} {v : AV} (h : F.getD 2 .any = v) : xMh G (xA2 [.tmp 2] ⟨F,G⟩) = some (v,G) := by
 rw [xHz,xNT,h]; rfl
theorem xYT : a41 = ⟨134,a41.code,[.tmp 2]⟩ := by kernel_rfl
theorem yAJ (rb : Nat) (G : Heap) : xAS L1 a41 [.ptr rb 0] G = xHw [.tmp 2] (run L1 a41.code ⟨[.ptr rb 0] ++ pads 133,G⟩) := by
 have h : ∀ (c : ACode),xAS L1 ⟨134,c,[.tmp 2]⟩ [.ptr rb 0] G = xHw [.tmp 2] (run L1 c ⟨[.ptr rb 0] ++ pads 133,G⟩) := fun c => xAj ..
 exact (congrArg (fun f => xAS L1 f [.ptr rb 0] G) xYT).trans (h _)
theorem xFp {rb : Nat} {S : List UInt8} (hS : S.length ≤ 4096) : ∀ k,yAH rb S k := by
 intro k
 induction k with
 | zero => intro many l r m' l' r' G at_ lv X h hd hal hPL hXr hXb hlm hm64 hp; cases hp
 | succ k ih =>
  intro many l r m' l' r' G at_ lv X h hd hal hPL hXr hXb hlm hm64 hp
  unfold xCh at hp
  obtain ⟨c,q0,h1,hp⟩ := xAB hp
  obtain ⟨q0',rfl,rfl,hcs⟩ := xCE h1
  split at hp
  ·cases hp
  rename_i hmany
  obtain ⟨op,r1,hname,hp⟩ := xAB hp
  obtain ⟨nm,r2,hnm,hp⟩ := xAB hp
  obtain ⟨x,r3,hx,hp⟩ := xAB hp
  obtain ⟨us,r4,has,hp⟩ := xAB hp
  obtain ⟨p,r5,hA,hp⟩ := xAB hp
  obtain ⟨q,r6,hB,hp⟩ := xAB hp
  obtain ⟨u,r7,hI,hp⟩ := xAB hp
  have hm1 : m' = q.1 ∧ l' = q.2 ++ [⟨op,nm,us.isEmpty,us,x,if 1 ≤ chn op then (p.2.length : Int) - 1 else 0,if chn op = 2 then (q.2.length : Int) - 1 else 0⟩] ∧ r' = r7 := by cases hp; exact ⟨rfl,rfl,rfl⟩
  clear hp
  obtain ⟨rfl,rfl,rfl⟩ := hm1
  obtain ⟨a1,a2,a3⟩ := xAX hd
  have lo := xAp (show G[rb]? = some _ from h)
  have hlt := hPL.lt
  obtain ⟨F1,e0,f1⟩ := st0 (G := G) (xPU (n := 133) rb rfl)
  obtain ⟨F2,e1,f2⟩ := st1 f1 h hS a1 hcs
  obtain ⟨F3,e2,f3⟩ := st2 f2 h (by omega)
  obtain ⟨F4,e3,f4⟩ := st3 f3 h (by omega)
  have hA1 : RD (G.set rb (rdB S at_ lv (many + 1))) rb S at_ lv (many + 1) := by unfold RD; rw [List.getElem?_set_self lo]
  obtain ⟨F5,at1,e4,f5,d1,l1⟩ : ∃ F5 at1,run L1 pc4 ⟨F4,G.set rb (rdB S at_ lv (many + 1))⟩ = some (.normal,⟨F5,G.set rb (rdB S at1 lv (many + 1))⟩) ∧ FrB F5 rb (c == 40) ∧ S.drop at1 = (if c = 40 then (c :: q0').tail else c :: q0') ∧ at1 ≤ S.length := by
   by_cases c4 : c = 40
   ·have hi : (c == 40) = true := by rw [c4]; rfl
    obtain ⟨F5,e,f⟩ := yDx f4 hi hA1 (by omega)
    rw [List.set_set] at e
    exact ⟨F5,at_ + 1,e,f,by rw [if_pos c4]; exact a2,a3⟩
   ·have hi : (c == 40) = false := by simpa using c4
    obtain ⟨F5,e,f⟩ := yDy (G := G.set rb (rdB S at_ lv (many + 1))) f4 hi
    exact ⟨F5,at_,e,f,by rw [if_neg c4]; exact hd,hal⟩
  have hA2 : RD (G.set rb (rdB S at1 lv (many + 1))) rb S at1 lv (many + 1) := by unfold RD; rw [List.getElem?_set_self lo]
  obtain ⟨c2,q2,hr2,hc2,hpop,hr1⟩ := xIa hname
  rw [← d1] at hr2 hpop hr1
  obtain ⟨ho1,ho10,hins⟩ := xOk hpop
  rw [hr2] at hpop
  have hn71 := xMu hA2 hS hr2 hc2 hpop
  obtain ⟨F6,e5,f6⟩ := st5 f5 hA2 hn71
  rw [List.set_set] at e5
  rw [← hr2] at e5
  rw [List.length_set] at f6
  generalize hat2 : at1 + (xA0 (S.drop at1)).length = at2 at *
  have l2 : at2 ≤ S.length := by
   have h1 := congrArg List.length (xIb (S.drop at1))
   rw [List.length_append,List.length_drop] at h1
   have h2 : (xA0 (S.drop at1)).length ≤ S.length - at1 := by omega
   omega
  have d2 : S.drop at2 = r1 := by rw [hr1,List.drop_drop,hat2]
  have hx6 : (G.set rb (rdB S at2 lv (many + 1)) ++ [xB op 0 (.sl true 0 []) 0 0 0])[G.length]? = some (xB op 0 (.sl true 0 []) 0 0 0) := by
   rw [List.getElem?_append_right (by simp)]; simp
  obtain ⟨F7,e6,f7⟩ := st6 f6 hx6
  have hl7 : (G.set rb (rdB S at2 lv (many + 1)) ++ [xB op 0 (.sl true 0 []) 0 0 0]).length = G.length + 1 := by simp
  rw [hl7] at f7
  generalize hG7 : G.set rb (rdB S at2 lv (many + 1)) ++ [xB op 0 (.sl true 0 []) 0 0 0] ++ [.cells false false (foC op)] = G7 at *
  have k7 : Kt G.length rb G G7 := by
   rw [← hG7]
   exact (Kt.set.trans (Kp.appB _ _ (by simp)).kt).trans (Kp.appB _ _ (by simp)).kt
  have X7 : XS G lv G7 rb G.length (G.length + 1) S at2 r1 lv (many + 1) op 0 (.sl true 0 []) 0 0 0 := by
   refine ⟨?_,d2,l2,?_,?_,Kt.keep lv k7,Nat.le_refl _,by omega,by omega,by omega,by omega⟩
   ·unfold RD
    rw [← hG7,List.getElem?_append_left (by simp; omega),List.getElem?_append_left (by simp; omega),List.getElem?_set_self lo]
   ·rw [← hG7,List.getElem?_append_left (by simp)]; exact hx6
   ·rw [← hG7,List.getElem?_append_right (by simp)]; simp
  obtain ⟨F8,G8,at8,e7,f8,X8,k8⟩ := g7 hS f7 X7 hnm
  obtain ⟨F9,G9,at9,e8,f9,X9,k9⟩ := g8 hS f8 X8 hx
  obtain ⟨F10,G10,at10,av,e9,f10,X10,k10,hPC⟩ := g9 hS f9 X9 has
  have lx := xAp X10.hx
  have lio := xAp X10.ho
  have hM0 := X10.kp.1
  generalize hM : G10.length = M at *
  generalize hY : (fun b => X b ∨ (G.length ≤ b ∧ b < M)) = Y at *
  have hYX : ∀ b,X b → Y b := fun b q => by rw [← hY]; exact .inl q
  have hYM : ∀ b,G.length ≤ b → b < M → Y b := fun b q1 q2 => by rw [← hY]; exact .inr ⟨q1,q2⟩
  have hYb : ∀ b,Y b → b < M := fun b q => by
   rw [← hY] at q
   rcases q with q | q
   ·have := hXb b q; omega
   ·exact q.2
  have hPL10 : PL G10 Y lv l := by
   refine PL.kt (X := Y) (rb := rb) ?_ (hYX rb hXr) (((k7.trans k8).trans k9).trans k10)
   refine hPL.mono fun b hb hn => ?_
   rw [← hY]
   rintro (q | q)
   ·exact hn q
   ·omega
  obtain ⟨F11,G11,at11,lv11,e10,f11,X11,hPL11,hPC11,hlm11,hm11,hll11,hnb11,hlen11,hM11⟩ : ∃ F11 G11 at11 lv11,run L1 xPS ⟨F10,G10⟩ = some (.normal,⟨F11,G11⟩) ∧ Fr F11 rb (c == 40) G.length (G.length + 1) ∧ XS G lv G11 rb G.length (G.length + 1) S at11 r5 lv11 p.1 op nm av x (if 1 ≤ chn op then (p.2.length : Int) - 1 else 0) 0 ∧ PL G11 Y lv11 p.2 ∧ PC G.length M G11 rb G.length (G.length + 1) us av ∧ p.2.length + (many + 1) ≤ p.1 + l.length ∧ p.1 ≤ 64 ∧ l.length ≤ p.2.length ∧ (∀ b,b < G.length → nb lv b → nb lv11 b) ∧ (1 ≤ chn op → 0 < p.2.length) ∧ M ≤ G11.length := by
   by_cases c1 : 1 ≤ chn op
   ·rw [if_pos c1] at hA
    obtain ⟨G2,at',ol,z1,z2,z3,z4,z5,z6,z7,z8,z9,z10⟩ := xVM (X := Y) (M := M) hS ih X10 hPL10 hYb hYM (by omega) (hYX rb hXr) (by omega) (by omega) (by omega) (by omega) hPC (fun _ _ q => q) (m' := p.1) (l' := p.2) hA
    obtain ⟨F',e,f⟩ := yAC f10 c1 X10.rd hS z1 z2 z3.hx z3.ho X10.hx X10.ho
    have hpos : (p.2.length : Int) - 1 = ((p.2.length - 1 : Nat) : Int) := by omega
    rw [if_pos c1,hpos]
    exact ⟨F',_,at',_,e,f,z3.setx,z4.setx (hYM _ (Nat.le_refl _) (by omega)),z9.setx,z5,z6,by omega,fun b hb _ o m h => by cases h; omega,fun _ => by omega,by simpa using z10⟩
   ·rw [if_neg c1] at hA
    cases hA
    obtain ⟨F',e,f⟩ := yAD f10 c1 X10.hx X10.ho
    rw [if_neg c1]
    exact ⟨F',_,at10,lv,e,f,X10,hPL10,hPC,by simp; omega,by simp; omega,Nat.le_refl _,fun _ _ q => q,fun q => absurd q c1,by omega⟩
  generalize hpa : (if 1 ≤ chn op then (p.2.length : Int) - 1 else 0) = pa at *
  obtain ⟨F12,G12,at12,lv12,e11,f12,X12,hPL12,hPC12,hlm12,hm12,hll12,hnb12,hM12⟩ : ∃ F12 G12 at12 lv12,run L1 xPT ⟨F11,G11⟩ = some (.normal,⟨F12,G12⟩) ∧ Fr F12 rb (c == 40) G.length (G.length + 1) ∧ XS G lv G12 rb G.length (G.length + 1) S at12 r6 lv12 q.1 op nm av x pa (if chn op = 2 then (q.2.length : Int) - 1 else 0) ∧ PL G12 Y lv12 q.2 ∧ PC G.length M G12 rb G.length (G.length + 1) us av ∧ q.2.length + (many + 1) ≤ q.1 + l.length ∧ q.1 ≤ 64 ∧ l.length ≤ q.2.length ∧ (∀ b,b < G.length → nb lv b → nb lv12 b) ∧ M ≤ G12.length := by
   by_cases c1 : chn op = 2
   ·rw [if_pos c1] at hB
    obtain ⟨G2,at',ol,z1,z2,z3,z4,z5,z6,z7,z8,z9,z10⟩ := xVM (X := Y) (M := M) hS ih X11 hPL11 hYb hYM hM11 (hYX rb hXr) (by omega) (by omega) (by omega) hm11 hPC11 hnb11 (m' := q.1) (l' := q.2) hB
    obtain ⟨F',e,f⟩ := yAE f11 c1 X11.rd hS z1 z2 z3.hx z3.ho X11.hx X11.ho
    have hpos : (q.2.length : Int) - 1 = ((q.2.length - 1 : Nat) : Int) := by omega
    rw [if_pos c1,hpos]
    exact ⟨F',_,at',_,e,f,z3.setx,z4.setx (hYM _ (Nat.le_refl _) (by omega)),z9.setx,by omega,z6,by omega,fun b hb _ o m h => by cases h; omega,by simpa using z10⟩
   ·rw [if_neg c1] at hB
    cases hB
    obtain ⟨F',e,f⟩ := yAF f11 c1 X11.hx X11.ho
    rw [if_neg c1]
    exact ⟨F',_,at11,lv11,e,f,X11,hPL11,hPC11,hlm11,hm11,hll11,hnb11,hM11⟩
  generalize hpb : (if chn op = 2 then (q.2.length : Int) - 1 else 0) = pb at *
  obtain ⟨F13,G13,at13,e12,f13,X13,k13⟩ : ∃ F13 G13 at13,run L1 xUz ⟨F12,G12⟩ = some (.normal,⟨F13,G13⟩) ∧ Fr F13 rb (c == 40) G.length (G.length + 1) ∧ XS G lv G13 rb G.length (G.length + 1) S at13 r' lv12 q.1 op nm av x pa pb ∧ Kt G12.length rb G12 G13 := by
   by_cases c4 : c = 40
   ·have hi : (c == 40) = true := by rw [c4]; rfl
    rw [if_pos c4] at hI
    have hr := xBx hI
    obtain ⟨b1,b2,b3⟩ := xAX (X12.dr.trans hr)
    obtain ⟨F',e,f⟩ := yCN f12 hi X12.rd hS b1
    exact ⟨F',_,at12 + 1,e,f,X12.on b2 b3,Kt.set⟩
   ·have hi : (c == 40) = false := by simpa using c4
    rw [if_neg c4] at hI
    cases hI
    obtain ⟨F',e,f⟩ := yCO (G := G12) f12 hi
    exact ⟨F',_,at12,e,f,X12,.refl _ _ _⟩
  have hPL13 : PL G13 Y lv12 q.2 := hPL12.kt (hYX rb hXr) k13
  have hPC13 : PC G.length M G13 rb G.length (G.length + 1) us av := hPC12.keep fun b hb hbM h3 _ => k13.2 b (by omega) h3
  have hPA13 : PA1 G13 X lv12 us av := hPC13.pa1 hXb hYM hPL13
  have hPL13' : PL G13 X lv12 q.2 := hPL13.mono fun b _ hn q => hn (hYX b q)
  obtain ⟨F14,G14,ol,e13,f14,R14,hPL14,hol,k14⟩ := yEJ f13 X13.rd X13.hx X13.n1 (hPL13.nb (hYM _ (Nat.le_refl _) (by omega))) hPL13' hXr (fun b hb => by have := hXb b hb; have := X13.kp.1; omega) hPA13 (by omega)
  have hln : (q.2 ++ [(⟨op,nm,us.isEmpty,us,x,pa,pb⟩ : Nd)]).length = q.2.length + 1 := by simp
  obtain ⟨F15,e14,g15⟩ := yEI f14 R14 (by omega) (by omega)
  have hres : xMh G14 (xA2 [.tmp 2] ⟨F15,G14⟩) = some (.int .i64 ((q.2.length + 1 - 1 : Nat) : Int),G14) := yCR g15
  refine ⟨G14,at13,ol,?_,by rw [hln]; exact R14,X13.dr,X13.al,by rw [hln]; exact hPL14,?_,hm12,?_,?_,?_⟩
  ·rw [yDM,List.append_nil,yAJ,yAB,xAw,e0,xAl,xAw,e1,xAl,xAw,e2,xAl,xAw,e3,xAl,xAw,e4,xAl,xAw,e5,xAl,xAw,e6,xAl,xAw,e7,xAl,xAw,e8,xAl,xAw,e9,xAl,xAw,e10,xAl,xAw,e11,xAl,xAw,e12,xAl,xAw,e13,xAl,e14,xHx,hres,hln]
  ·rw [hln]; omega
  ·rw [hln]; omega
  ·have := X13.kp.1; omega
  ·exact X13.kp.trans k14 fun b hb hn => hnb12 b hb hn
end Go.Abs.Events
