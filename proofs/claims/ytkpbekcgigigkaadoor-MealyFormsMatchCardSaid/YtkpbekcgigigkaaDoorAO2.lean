/- MealyFormsMatch: the law's walks. -/
import Derived.Test.YtkpbekcgigigkaaDoorAbsBun
import Derived.Test.YtkpbekcgigigkaaDoorAO1
namespace Go.Abs.Mealy
open Go Go.Abs
set_option linter.unusedSimpArgs false
set_option linter.unusedVariables false
section
variable {A X : Ma} {b c : Mf} {B : Heap} {pn pe : Nat} {idn ide : List Nat}
structure FM (A X : Ma) (b c : Mf) (B : Heap) (pn pe : Nat) (idn ide : List Nat) : Prop where
 hl : L.pcall 11 [.sl false 2 (A.cells ++ b.cells)] = some (.bool false)
 ca : L.pcall 14 [A.av] = some A.av
 cb : L.pcall 14 [b.av] = some c.av
 sa : L.pcall 29 [A.av,A.av] = some (.bool true)
 sb : L.pcall 29 [c.av,b.av] = some (.bool true)
 own : OwnM X (two A.i) B pn pe idn ide
 m : L.icall (.func 35 []) [A.av] [] = some (.tup [.agg [.int .i64 (X.i : Nat),.int .i64 (X.o : Nat),.int .i64 0,.own false pn 0 X.next.length 1,.own false pe 0 X.emit.length 1],.int .i64 0],B)
 r : L.pcall 36 [A.av] = some (.tup [X.av,.int .i64 0])
 s : X.s = 0
 i : X.i = A.i
 v : Vm X
 xx : L.pcall 29 [X.av,X.av] = some (.bool true)
set_option maxRecDepth 100000 in
set_option maxHeartbeats 4000000 in
theorem xZ3 (h : FM A X b c B pn pe idn ide) {v : List Nat} (hv : v.length < 1099511627776)
  (h37 : xBj L 37 [A.av,c.av] = some (.tup [.own false 0 0 v.length 1,.bool false,.int .i64 0],[.cells false false (bs v)])) (h38 : L.pcall 38 [A.av,b.av] = some (.tup [.sl false v.length (bs v),.bool false,.int .i64 0])) :
  L.pcall 5 [A.av,b.av] = some (.bool true) := by
 obtain ⟨hl,ca,cb,sa,sb,own,m,r,s0,hXi,hV,xx⟩ := h
 have hk : L.pcall 13 [] = some (.bool true) := k1
 have hw := xII m rfl
 have q1 := yGf (z1 := false) (z2 := false) (a := v) (b := v) (by omega)
 rw [decide_eq_true rfl] at q1
 have L0 := own.lift
 have hwn : ∀ r ∈ X.next,r.length = two A.i := fun r hr => by rw [← hXi]; exact hV.rl r hr
 have hwe : ∀ r ∈ X.emit,r.length = two A.i := fun r hr => by rw [← hXi]; exact hV.wl r hr
 have h64 : two A.i ≤ 64 := by have := xCw (show A.i ≤ 6 by have := hV.io; omega); have : two 6 = 64 := rfl; omega
 have hQl : (B.map (xCW 4)).length = B.length := List.length_map ..
 generalize hQ : B.map (xCW 4) = Q at *
 have f1 := fun d b0 b1 b2 b3 l => L0.frzN hwn d b0 b1 b2 b3 l
 have f2 := fun d b0 b1 b2 b3 l => L0.frzE hwe d b0 b1 b2 b3 l
 have f3 := f1 3
 have f4 := f2 3
 clear f1 f2
 have f5 : ∀ b0 b1 b2 b3 x y,frz 6 (b0 :: b1 :: b2 :: b3 :: (Q ++ [x,y,.cells false false (bs v)])) (.own false (Q.length + 6) 0 v.length 1) = some (.sl false v.length (bs v)) := fun b0 b1 b2 b3 x y => by
  rw [xAx,show Q.length + 6 = 4 + (Q.length + 2) by omega,xS5,xEO rfl]
  show yF6 5 _ false 0 v.length 1 (some (.cells false false (bs v))) = _
  rw [xBR (by rw [xAJ]; omega),Nat.mul_one,List.drop_zero,List.take_of_length_le (by rw [xAJ]; omega),xOH]
  rfl
 obtain ⟨G1,G2,o1,o2,o3⟩ := L0.over hV (by omega) hwn hwe (xGw A.i) (.cells false false A.cells) (.cells false false b.cells) (.cells false false A.cells) (.cells false false c.cells)
  [.cells false false [.int .i64 (X.i : Nat),.int .i64 (X.o : Nat),.int .i64 0,.own false (4 + pn) 0 X.next.length 1,.own false (4 + pe) 0 X.emit.length 1],.cells false false [.int .i64 (X.i : Nat),.int .i64 (X.o : Nat),.int .i64 0,.sl false X.next.length (X.next.map rowI),.sl false X.emit.length (X.emit.map rowB)],.cells false false (bs v)]
 have g0 : G2[0]? = some (.cells false false A.cells) := (o3 0 (.inl (by omega))).2
 have g1 : G2[1]? = some (.cells false false b.cells) := (o3 1 (.inl (by omega))).2
 have g2 : G2[2]? = some (.cells false false A.cells) := (o3 2 (.inl (by omega))).2
 have g3 : G2[3]? = some (.cells false false c.cells) := (o3 3 (.inl (by omega))).2
 have gx : G1[Q.length + 1 + 1 + 1 + 1]? = some (.cells false false [.int .i64 (X.i : Nat),.int .i64 (X.o : Nat),.int .i64 0,.own false (4 + pn) 0 X.next.length 1,.own false (4 + pe) 0 X.emit.length 1]) := by
  rw [(o3 (Q.length + 1 + 1 + 1 + 1) (.inr (by omega))).1,show Q.length + 1 + 1 + 1 + 1 = 4 + Q.length by omega,xS5,xD3 rfl]
  rfl
 have gw : G2[Q.length + 6]? = some (.cells false false (bs v)) := by
  rw [(o3 (Q.length + 6) (.inr (by omega))).2,show Q.length + 6 = 4 + (Q.length + 2) by omega,xS5,xEO rfl]
  rfl
 have lw : (bs v).length = v.length := xAJ v
 clear o3
 have s0' : ((X.s : Nat) : Int) = 0 := by omega
 unfold Ma.av Mf.av at *
 unfold Ma.cells Mf.cells at *
 simp only [List.cons_append,List.nil_append] at hl
 rw [s0'] at r xx
 rw [a5p,a5,xAf]
 simp (maxSteps := 30000000) (disch := first | assumption | omega | (simp only [WL,AV.isCell] <;> omega) | rfl | decide) only [WB,Nat.reduceAdd,Nat.reduceSub,AV.cells,AV.isCell,↓reduceIte,Nat.reduceMul,Nat.reduceLeDiff,hl,xBL,xAF,ca,cb,xAc,xIG,xEw,hw,xIH,xAX,xBq,xA9,hQ,xD3,xX8,r,xEO,yCc,WP,h37,h38,f3,f4,xx,f5,q1,o1,gx,o2,yHI,gw,xMe,xAS,g2,g0,sa,g3,g1,sb,hk]
set_option maxRecDepth 100000 in
set_option maxHeartbeats 4000000 in
theorem xMQ (h : FM A X b c B pn pe idn ide) {f : Bool} {e : Int}
  (h37 : xBj L 37 [A.av,c.av] = some (.tup [.sl true 0 [],.bool f,.int .i64 e],[])) (h38 : L.pcall 38 [A.av,b.av] = some (.tup [.sl true 0 [],.bool f,.int .i64 e])) :
  L.pcall 5 [A.av,b.av] = some (.bool true) := by
 obtain ⟨hl,ca,cb,sa,sb,own,m,r,s0,hXi,hV,xx⟩ := h
 have hk : L.pcall 13 [] = some (.bool true) := k1
 have hw := xII m rfl
 have q1 := yGf (z1 := true) (z2 := true) (a := []) (b := []) (by simp)
 rw [decide_eq_true rfl] at q1
 simp only [List.length_nil] at q1
 have hb0 : bs [] = [] := rfl
 rw [hb0] at q1
 have L0 := own.lift
 have hwn : ∀ r ∈ X.next,r.length = two A.i := fun r hr => by rw [← hXi]; exact hV.rl r hr
 have hwe : ∀ r ∈ X.emit,r.length = two A.i := fun r hr => by rw [← hXi]; exact hV.wl r hr
 have h64 : two A.i ≤ 64 := by have := xCw (show A.i ≤ 6 by have := hV.io; omega); have : two 6 = 64 := rfl; omega
 have hQl : (B.map (xCW 4)).length = B.length := List.length_map ..
 generalize hQ : B.map (xCW 4) = Q at *
 have f1 := fun d b0 b1 b2 b3 l => L0.frzN hwn d b0 b1 b2 b3 l
 have f2 := fun d b0 b1 b2 b3 l => L0.frzE hwe d b0 b1 b2 b3 l
 have f3 := f1 3
 have f4 := f2 3
 clear f1 f2
 obtain ⟨G1,G2,o1,o2,o3⟩ := L0.over hV (by omega) hwn hwe (xGw A.i) (.cells false false A.cells) (.cells false false b.cells) (.cells false false A.cells) (.cells false false c.cells)
  [.cells false false [.int .i64 (X.i : Nat),.int .i64 (X.o : Nat),.int .i64 0,.own false (4 + pn) 0 X.next.length 1,.own false (4 + pe) 0 X.emit.length 1],.cells false false [.int .i64 (X.i : Nat),.int .i64 (X.o : Nat),.int .i64 0,.sl false X.next.length (X.next.map rowI),.sl false X.emit.length (X.emit.map rowB)]]
 have g0 : G2[0]? = some (.cells false false A.cells) := (o3 0 (.inl (by omega))).2
 have g1 : G2[1]? = some (.cells false false b.cells) := (o3 1 (.inl (by omega))).2
 have g2 : G2[2]? = some (.cells false false A.cells) := (o3 2 (.inl (by omega))).2
 have g3 : G2[3]? = some (.cells false false c.cells) := (o3 3 (.inl (by omega))).2
 have gx : G1[Q.length + 1 + 1 + 1 + 1]? = some (.cells false false [.int .i64 (X.i : Nat),.int .i64 (X.o : Nat),.int .i64 0,.own false (4 + pn) 0 X.next.length 1,.own false (4 + pe) 0 X.emit.length 1]) := by
  rw [(o3 (Q.length + 1 + 1 + 1 + 1) (.inr (by omega))).1,show Q.length + 1 + 1 + 1 + 1 = 4 + Q.length by omega,xS5,xD3 rfl]
  rfl
 clear o3
 have s0' : ((X.s : Nat) : Int) = 0 := by omega
 unfold Ma.av Mf.av at *
 unfold Ma.cells Mf.cells at *
 simp only [List.cons_append,List.nil_append] at hl
 rw [s0'] at r xx
 rw [a5p,a5,xAf]
 simp (maxSteps := 30000000) (disch := first | assumption | omega | (simp only [WL,AV.isCell] <;> omega) | rfl | decide) only [WB,Nat.reduceAdd,Nat.reduceSub,AV.cells,AV.isCell,↓reduceIte,Nat.reduceMul,Nat.reduceLeDiff,hl,xBL,xAF,ca,cb,xAc,xIG,xEw,hw,xIH,xAX,xBq,xA9,hQ,xD3,xX8,r,xEO,yCc,WP,h37,h38,f3,f4,xx,q1,o1,gx,o2,yFT,g2,g0,sa,g3,g1,sb,hk]
set_option maxRecDepth 100000 in
set_option maxHeartbeats 4000000 in
theorem xZ4 {a a' b c : Mf} {G : Heap} {e : Int} (hl : L.pcall 11 [.sl false 2 (a.cells ++ b.cells)] = some (.bool false)) (ca : L.pcall 14 [a.av] = some a'.av) (cb : L.pcall 14 [b.av] = some c.av) (sa : L.pcall 29 [a'.av,a.av] = some (.bool true)) (sb : L.pcall 29 [c.av,b.av] = some (.bool true))
  (m : L.icall (.func 35 []) [a'.av] [] = some (.tup [.agg [.int .i64 0,.int .i64 0,.int .i64 0,.sl true 0 [],.sl true 0 []],.int .i64 e],G)) (r : L.pcall 36 [a.av] = some (.tup [.agg [.int .i64 0,.int .i64 0,.int .i64 0,.sl true 0 [],.sl true 0 []],.int .i64 e]))
  (h37 : xBj L 37 [a'.av,c.av] = some (.tup [.sl true 0 [],.bool false,.int .i64 e],[])) (h38 : L.pcall 38 [a.av,b.av] = some (.tup [.sl true 0 [],.bool false,.int .i64 e])) :
  L.pcall 5 [a.av,b.av] = some (.bool true) := by
 have hk : L.pcall 13 [] = some (.bool true) := k1
 have hw := xII m rfl
 have q1 := yGf (z1 := true) (z2 := true) (a := []) (b := []) (by simp)
 rw [decide_eq_true rfl] at q1
 simp only [List.length_nil] at q1
 have hb0 : bs [] = [] := rfl
 rw [hb0] at q1
 have xx := xTD (a := ⟨0,0,0,true,[],true,[]⟩) (b := ⟨0,0,0,true,[],true,[]⟩) (by simp) (by simp) (by simp) (by simp) ⟨rfl,rfl,rfl,rfl,rfl⟩
 unfold Mf.av at *
 unfold Mf.cells at *
 simp only [List.map_nil,List.length_nil] at xx
 simp only [List.cons_append,List.nil_append] at hl
 have hQl : (G.map (xCW 4)).length = G.length := List.length_map ..
 generalize hQ : G.map (xCW 4) = Q at *
 have n39 := yD4
 have n40 := yD5
 rw [a5p,a5,xAf]
 simp (maxSteps := 30000000) (disch := first | assumption | omega | (simp only [WL,AV.isCell] <;> omega) | rfl | decide) only [WB,Nat.reduceAdd,Nat.reduceSub,AV.cells,AV.isCell,↓reduceIte,Nat.reduceMul,Nat.reduceLeDiff,hl,xBL,xAF,ca,cb,xAc,xIG,xEw,hw,xIH,xAX,xBq,xA9,hQ,xD3,xX8,r,xEO,yCc,WP,h37,h38,xx,q1,n39,n40,yFT,sa,sb,hk]
end
end Go.Abs.Mealy
