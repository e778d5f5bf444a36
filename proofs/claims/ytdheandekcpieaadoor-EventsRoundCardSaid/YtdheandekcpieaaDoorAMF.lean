/- Format: one round of the loop (f3gen.py). -/
import Derived.Test.YtdheandekcpieaaDoorAbsBun
import Derived.Test.YtdheandekcpieaaDoorAMP
namespace Go.Abs.Events
open Go Go.Abs
set_option maxHeartbeats 8000000
set_option linter.unusedSimpArgs false
set_option linter.unusedVariables false
abbrev xIZ : Prop := ∀ W : List (List UInt8),1 ≤ W.length → W.length ≤ 1000 → (Lib.join W [32]).length ≤ 1000000 → L.pcall 69 [.sl false W.length (sts W),.str ⟨#[32]⟩] = some (zS (Lib.join W [32]))
abbrev F38 (fz : Bool) (fs : List Nd) (v : AV) (i : Nat) : List AV := xIw v (.sl fz fs.length (nds fs)) (.int .i64 (fs.length : Nat)) (.int .i64 (i : Nat))
theorem xEp (d : Nat) (H : Heap) : ∀ l : List (List UInt8),(sts l).mapM (frz (d + 1) H) = some (sts l)
 | [] => rfl
 | b :: l => by
  have : sts (b :: l) = zS b :: sts l := rfl
  rw [this,List.mapM_cons,xEp d H l]
  rfl
section
variable {fz : Bool} {fs : List Nd} {n : Nd} {i : Nat}
theorem xUE (hJ : xIZ) (hl : fs.length ≤ 64) (hlt : i < fs.length) (hn : fs.getD i nd0 = n) (hv : Vn i n) (h1 : n.op ≠ 1) (h2 : n.op ≠ 2) (h7 : n.op ≠ 7) {S' : List Nat} (hS : S'.length ≤ 64)
  (hjl : (Lib.join (hdW n ++ (xAG n).map (txt fs)) [32]).length ≤ 100000) (ht : txt fs i = wrp n.op (Lib.join (hdW n ++ (xAG n).map (txt fs)) [32])) {o : Nat} {G : Heap}
  (go : G[o]? = some (.cells false false (sts ((S' ++ xAG n).map (txt fs))))) :
  ∃ G' o',L.loop xBp xCs ⟨F38 fz fs (.own false o 0 (S' ++ xAG n).length 1) i,G⟩ = L.loop xBp xCs ⟨F38 fz fs (.own false o' 0 (S'.length + 1) 1) (i + 1),G'⟩ ∧ G'[o']? = some (.cells false false (sts ((S' ++ [i]).map (txt fs)))) := by
 have hltI : ((i : Nat) : Int) < (fs.length : Nat) := by omega
 have hf := xDa n.op
 unfold foC at hf
 have b2 : decide (n.op = 2) = false := by simp [h2]
 have b7 : decide (n.op = 7) = false := by simp [h7]
 rw [b2,b7] at hf
 have lo := xAv go
 obtain ⟨G1,ow,e1,b1,g1,k1⟩ := xE6 (s5 := .own false o 0 (S' ++ xAG n).length 1) (s7 := .ptr G.length 0) (s8 := .ptr (G.length + 1) 0) (s19 := .sl fz fs.length (nds fs)) (s20 := .int .i64 (fs.length : Nat)) (s21 := .int .i64 (i : Nat)) (z := n.z) (B := G.length + 2) hv.ar hv.al n.args.length 0 (by omega)
  (G ++ [.cells false false n.c,.cells false false [.str (fnm n.op),.int .i64 (chn n.op : Nat),.int .i64 (flo n.op : Nat),.int .i64 (fhi n.op : Nat),.bool false,.bool false],.cells false false (sts [opB n.op])]) (G.length + 2) 1 [opB n.op] (by omega) (by simp) rfl (by have := hv.al; omega)
  (by rw [List.getElem?_append_right (by omega),show G.length + 2 - G.length = 2 by omega]; rfl)
 have hx1 : G1[G.length]? = some (.cells false false n.c) := by rw [k1.2 _ (by omega),List.getElem?_append_right (Nat.le_refl _),Nat.sub_self]; rfl
 have hx2 : G1[G.length + 1]? = some (.cells false false [.str (fnm n.op),.int .i64 (chn n.op : Nat),.int .i64 (flo n.op : Nat),.int .i64 (fhi n.op : Nat),.bool false,.bool false]) := by rw [k1.2 _ (by omega),List.getElem?_append_right (by omega),show G.length + 1 - G.length = 1 by omega]; rfl
 have go1 : G1[o]? = some (.cells false false (sts ((S' ++ xAG n).map (txt fs)))) := by rw [k1.2 _ (by omega),List.getElem?_append_left lo]; exact go
 have lo1 := xAv go1
 have hlen := k1.1
 have low := xAv g1
 have hnv : xBN n.z n.args = .sl n.z n.args.length (xAJ n.args) := rfl
 have hkl := xC3 n
 have hWl : (hdW n ++ (xAG n).map (txt fs)).length = 1 + n.args.length + chn n.op := by unfold hdW; rw [if_neg h2,if_neg h7]; simp [hkl]; omega
 have hJ' := hJ _ (by rw [hWl]; omega) (by rw [hWl,← hkl]; have := hv.al; have := xAK n.op; omega) (Nat.le_trans hjl (by decide))
 have hg1 : [opB n.op] ++ (n.args.drop 0).map (fun t => [spB t]) = hdW n := by unfold hdW; rw [if_neg h2,if_neg h7]; rfl
 rw [hg1] at g1
 have hh1 := xAY (hdW n)
 have hWl1 : (hdW n).length = 1 + n.args.length := by unfold hdW; rw [if_neg h2,if_neg h7]; simp; omega
 have hh2 := xBi (hdW n)
 rw [hWl1] at hh1 hh2
 have happ1 := xCt (hdW n) ((xAG n).map (txt fs))
 have hlw := xAY (hdW n ++ (xAG n).map (txt fs))
 have htw := xBi (hdW n ++ (xAG n).map (txt fs))
 rw [hWl] at hJ' hlw htw
 have htl := xAY ((S' ++ xAG n).map (txt fs))
 have htk : List.take S'.length (sts ((S' ++ xAG n).map (txt fs))) = sts (S'.map (txt fs)) := by
  rw [List.map_append,← xCt,List.take_left' (by simp [xAY])]
 have htd : List.drop S'.length (sts ((S' ++ xAG n).map (txt fs))) = sts ((xAG n).map (txt fs)) := by
  rw [List.map_append,← xCt,List.drop_left' (by simp [xAY])]
 have hkt := xBi ((xAG n).map (txt fs))
 rw [List.length_map,hkl] at hkt
 have happ2 := xFH (S'.map (txt fs)) (txt fs i)
 rw [show S'.map (txt fs) ++ [txt fs i] = (S' ++ [i]).map (txt fs) by simp] at happ2
 have hSl : (S' ++ xAG n).length = S'.length + chn n.op := by rw [List.length_append,hkl]
 rw [List.length_map,hSl] at htl
 rw [hSl] at e1 ⊢
 have hsub : ((S'.length + chn n.op : Nat) : Int) - (chn n.op : Nat) = (S'.length : Nat) := by omega
 have hsubN : S'.length + chn n.op - S'.length = chn n.op := by omega
 have hle : S'.length ≤ S'.length + chn n.op := by omega
 have hfr := fun d H => xEp d H (hdW n ++ (xAG n).map (txt fs))
 have hwr : wrp n.op (Lib.join (hdW n ++ (xAG n).map (txt fs)) [32]) = 40 :: (Lib.join (hdW n ++ (xAG n).map (txt fs)) [32] ++ [41]) := by unfold wrp; rw [if_neg h1]
 rw [hwr] at ht
 rw [ht] at happ2
 have hs1 : ∀ H,xRr H (zS [40]) (zS (Lib.join (hdW n ++ (xAG n).map (txt fs)) [32])) = some (zS (40 :: Lib.join (hdW n ++ (xAG n).map (txt fs)) [32]),H) := fun H => xEQ (a := [40]) H (by decide) (by omega)
 have hs2 : ∀ H,xRr H (zS (40 :: Lib.join (hdW n ++ (xAG n).map (txt fs)) [32])) (zS [41]) = some (zS (40 :: (Lib.join (hdW n ++ (xAG n).map (txt fs)) [32] ++ [41])),H) := fun H => xEQ (b := [41]) H (by simp; omega) (by decide)
 have hc1 : (((n.op : Nat) : Int) = 1) = False := by simp; omega
 have hbd := xAK n.op
 have hal := hv.al
 have hwd : sts [opB n.op] = [.str (fnm n.op)] := by rw [xYu]; rfl
 rw [hwd,show ((0 : Nat) : Int) = 0 from rfl] at e1
 generalize Lib.join (hdW n ++ (xAG n).map (txt fs)) [32] = J at *
 generalize sts (hdW n ++ (xAG n).map (txt fs)) = LW at *
 generalize sts (hdW n) = LH at *
 generalize sts ((xAG n).map (txt fs)) = LK at *
 generalize sts ((S' ++ xAG n).map (txt fs)) = LT at *
 generalize sts ((S' ++ [i]).map (txt fs)) = LN at *
 generalize sts (S'.map (txt fs)) = LS at *
 clear hJ hg1 hwr ht hkl hWl
 generalize S'.length = a at *
 refine ⟨List.set (List.set G1 ow Blk.dead ++ [Blk.cells false false LW]) o Blk.dead ++ [Blk.cells false false LN],G1.length + 1,?_,by rw [List.getElem?_append_right (by simp)]; simp⟩
 unfold Nd.c at e1 hx1
 rw [hnv] at e1 hx1
 rw [xGQ]
 simp (maxSteps := 30000000) (disch := first|exact D5|fail) only [xEM,WB,hltI,↓reduceIte,xAN,Nd.c,hn,hnv,AV.cells,AV.isCell,Nat.reduceAdd,xCe,xDS,hf,xAO,xAt,xIK,xUu,xFE,e1,hx2,hsub,hsubN,go1,htd,hkt,g1,hh2,happ1,xBl,htw,hfr,hJ',xA6,xBK,hx1,hc1,xIG,hs1,hs2,Nat.reduceBEq,xFO,htk,happ2,xFF]
theorem xUF (hJ : xIZ) (hl : fs.length ≤ 64) (hlt : i < fs.length) (hn : fs.getD i nd0 = n) (hv : Vn i n) (h1 : n.op ≠ 1) (h2 : n.op ≠ 2) (h7 : n.op ≠ 7) (hk : xAG n = [])
  (hjl : (Lib.join (hdW n) [32]).length ≤ 100000) (ht : txt fs i = wrp n.op (Lib.join (hdW n) [32])) {G : Heap} :
  ∃ G' o',L.loop xBp xCs ⟨F38 fz fs (.sl true 0 []) i,G⟩ = L.loop xBp xCs ⟨F38 fz fs (.own false o' 0 1 1) (i + 1),G'⟩ ∧ G'[o']? = some (.cells false false (sts [txt fs i])) := by
 have hltI : ((i : Nat) : Int) < (fs.length : Nat) := by omega
 have hf := xDa n.op
 unfold foC at hf
 have b2 : decide (n.op = 2) = false := by simp [h2]
 have b7 : decide (n.op = 7) = false := by simp [h7]
 rw [b2,b7] at hf
 have hc0 : chn n.op = 0 := by rw [← xC3,hk]; rfl
 rw [hc0,show ((0 : Nat) : Int) = 0 from rfl] at hf
 obtain ⟨G1,ow,e1,b1,g1,k1⟩ := xE6 (s5 := .sl true 0 []) (s7 := .ptr G.length 0) (s8 := .ptr (G.length + 1) 0) (s19 := .sl fz fs.length (nds fs)) (s20 := .int .i64 (fs.length : Nat)) (s21 := .int .i64 (i : Nat)) (z := n.z) (B := G.length + 2) hv.ar hv.al n.args.length 0 (by omega)
  (G ++ [.cells false false n.c,.cells false false [.str (fnm n.op),.int .i64 0,.int .i64 (flo n.op : Nat),.int .i64 (fhi n.op : Nat),.bool false,.bool false],.cells false false (sts [opB n.op])]) (G.length + 2) 1 [opB n.op] (by omega) (by simp) rfl (by have := hv.al; omega)
  (by rw [List.getElem?_append_right (by omega),show G.length + 2 - G.length = 2 by omega]; rfl)
 have hx1 : G1[G.length]? = some (.cells false false n.c) := by rw [k1.2 _ (by omega),List.getElem?_append_right (Nat.le_refl _),Nat.sub_self]; rfl
 have hx2 : G1[G.length + 1]? = some (.cells false false [.str (fnm n.op),.int .i64 0,.int .i64 (flo n.op : Nat),.int .i64 (fhi n.op : Nat),.bool false,.bool false]) := by rw [k1.2 _ (by omega),List.getElem?_append_right (by omega),show G.length + 1 - G.length = 1 by omega]; rfl
 have hlen := k1.1
 have low := xAv g1
 have hnv : xBN n.z n.args = .sl n.z n.args.length (xAJ n.args) := rfl
 have hWl : (hdW n).length = 1 + n.args.length := by unfold hdW; rw [if_neg h2,if_neg h7]; simp; omega
 have hJ' := hJ _ (by rw [hWl]; omega) (by rw [hWl]; have := hv.al; omega) (Nat.le_trans hjl (by decide))
 have hg1 : [opB n.op] ++ (n.args.drop 0).map (fun t => [spB t]) = hdW n := by unfold hdW; rw [if_neg h2,if_neg h7]; rfl
 rw [hg1] at g1
 have hh1 := xAY (hdW n)
 have hWl1 : (hdW n).length = 1 + n.args.length := by unfold hdW; rw [if_neg h2,if_neg h7]; simp; omega
 have hh2 := xBi (hdW n)
 rw [hWl1] at hh1 hh2
 rw [hWl] at hJ'
 have happ2 : sts [txt fs i] = [zS (txt fs i)] := rfl
 rw [happ2]
 have hfr := fun d H => xEp d H (hdW n)
 have hwr : wrp n.op (Lib.join (hdW n) [32]) = 40 :: (Lib.join (hdW n) [32] ++ [41]) := by unfold wrp; rw [if_neg h1]
 rw [hwr] at ht
 rw [ht]
 have hs1 : ∀ H,xRr H (zS [40]) (zS (Lib.join (hdW n) [32])) = some (zS (40 :: Lib.join (hdW n) [32]),H) := fun H => xEQ (a := [40]) H (by decide) (by omega)
 have hs2 : ∀ H,xRr H (zS (40 :: Lib.join (hdW n) [32])) (zS [41]) = some (zS (40 :: (Lib.join (hdW n) [32] ++ [41])),H) := fun H => xEQ (b := [41]) H (by simp; omega) (by decide)
 have hc1 : (((n.op : Nat) : Int) = 1) = False := by simp; omega
 have hbd := xAK n.op
 have hal := hv.al
 have hwd : sts [opB n.op] = [.str (fnm n.op)] := by rw [xYu]; rfl
 rw [hwd,show ((0 : Nat) : Int) = 0 from rfl] at e1
 generalize Lib.join (hdW n) [32] = J at *
 generalize sts (hdW n) = LH at *
 clear hJ hg1 hwr ht hWl
 refine ⟨List.set G1 ow Blk.dead ++ [Blk.cells false false LH,Blk.cells false false [zS (40 :: (J ++ [41]))]],G1.length + 1,?_,by rw [List.getElem?_append_right (by simp)]; simp⟩
 unfold Nd.c at e1 hx1
 rw [hnv] at e1 hx1
 rw [xGQ]
 simp (maxSteps := 30000000) (disch := first|exact D5|fail) only [xEM,WB,hltI,↓reduceIte,xAN,Nd.c,hn,hnv,AV.cells,AV.isCell,Nat.reduceAdd,xCe,xDS,hf,xAO,xAt,xIK,xUu,xFE,e1,hx2,g1,hh2,xBl,hfr,hJ',xA6,xBK,hx1,hc1,xIG,hs1,hs2,Nat.reduceBEq,xFF]
theorem xUG (hJ : xIZ) (hl : fs.length ≤ 64) (hlt : i < fs.length) (hn : fs.getD i nd0 = n) (hv : Vn i n) (h1 : n.op = 1) {S' : List Nat} (hS : S'.length ≤ 64)
  (hjl : (Lib.join (hdW n ++ (xAG n).map (txt fs)) [32]).length ≤ 100000) (ht : txt fs i = wrp n.op (Lib.join (hdW n ++ (xAG n).map (txt fs)) [32])) {o : Nat} {G : Heap}
  (go : G[o]? = some (.cells false false (sts ((S' ++ xAG n).map (txt fs))))) :
  ∃ G' o',L.loop xBp xCs ⟨F38 fz fs (.own false o 0 (S' ++ xAG n).length 1) i,G⟩ = L.loop xBp xCs ⟨F38 fz fs (.own false o' 0 (S'.length + 1) 1) (i + 1),G'⟩ ∧ G'[o']? = some (.cells false false (sts ((S' ++ [i]).map (txt fs)))) := by
 have h2 : n.op ≠ 2 := by omega
 have h7 : n.op ≠ 7 := by omega
 have hltI : ((i : Nat) : Int) < (fs.length : Nat) := by omega
 have hf := xDa n.op
 unfold foC at hf
 have b2 : decide (n.op = 2) = false := by simp [h2]
 have b7 : decide (n.op = 7) = false := by simp [h7]
 rw [b2,b7] at hf
 have lo := xAv go
 obtain ⟨G1,ow,e1,b1,g1,k1⟩ := xE6 (s5 := .own false o 0 (S' ++ xAG n).length 1) (s7 := .ptr G.length 0) (s8 := .ptr (G.length + 1) 0) (s19 := .sl fz fs.length (nds fs)) (s20 := .int .i64 (fs.length : Nat)) (s21 := .int .i64 (i : Nat)) (z := n.z) (B := G.length + 2) hv.ar hv.al n.args.length 0 (by omega)
  (G ++ [.cells false false n.c,.cells false false [.str (fnm n.op),.int .i64 (chn n.op : Nat),.int .i64 (flo n.op : Nat),.int .i64 (fhi n.op : Nat),.bool false,.bool false],.cells false false (sts [opB n.op])]) (G.length + 2) 1 [opB n.op] (by omega) (by simp) rfl (by have := hv.al; omega)
  (by rw [List.getElem?_append_right (by omega),show G.length + 2 - G.length = 2 by omega]; rfl)
 have hx1 : G1[G.length]? = some (.cells false false n.c) := by rw [k1.2 _ (by omega),List.getElem?_append_right (Nat.le_refl _),Nat.sub_self]; rfl
 have hx2 : G1[G.length + 1]? = some (.cells false false [.str (fnm n.op),.int .i64 (chn n.op : Nat),.int .i64 (flo n.op : Nat),.int .i64 (fhi n.op : Nat),.bool false,.bool false]) := by rw [k1.2 _ (by omega),List.getElem?_append_right (by omega),show G.length + 1 - G.length = 1 by omega]; rfl
 have go1 : G1[o]? = some (.cells false false (sts ((S' ++ xAG n).map (txt fs)))) := by rw [k1.2 _ (by omega),List.getElem?_append_left lo]; exact go
 have lo1 := xAv go1
 have hlen := k1.1
 have low := xAv g1
 have hnv : xBN n.z n.args = .sl n.z n.args.length (xAJ n.args) := rfl
 have hkl := xC3 n
 have hWl : (hdW n ++ (xAG n).map (txt fs)).length = 1 + n.args.length + chn n.op := by unfold hdW; rw [if_neg h2,if_neg h7]; simp [hkl]; omega
 have hJ' := hJ _ (by rw [hWl]; omega) (by rw [hWl,← hkl]; have := hv.al; have := xAK n.op; omega) (Nat.le_trans hjl (by decide))
 have hg1 : [opB n.op] ++ (n.args.drop 0).map (fun t => [spB t]) = hdW n := by unfold hdW; rw [if_neg h2,if_neg h7]; rfl
 rw [hg1] at g1
 have hh1 := xAY (hdW n)
 have hWl1 : (hdW n).length = 1 + n.args.length := by unfold hdW; rw [if_neg h2,if_neg h7]; simp; omega
 have hh2 := xBi (hdW n)
 rw [hWl1] at hh1 hh2
 have happ1 := xCt (hdW n) ((xAG n).map (txt fs))
 have hlw := xAY (hdW n ++ (xAG n).map (txt fs))
 have htw := xBi (hdW n ++ (xAG n).map (txt fs))
 rw [hWl] at hJ' hlw htw
 have htl := xAY ((S' ++ xAG n).map (txt fs))
 have htk : List.take S'.length (sts ((S' ++ xAG n).map (txt fs))) = sts (S'.map (txt fs)) := by
  rw [List.map_append,← xCt,List.take_left' (by simp [xAY])]
 have htd : List.drop S'.length (sts ((S' ++ xAG n).map (txt fs))) = sts ((xAG n).map (txt fs)) := by
  rw [List.map_append,← xCt,List.drop_left' (by simp [xAY])]
 have hkt := xBi ((xAG n).map (txt fs))
 rw [List.length_map,hkl] at hkt
 have happ2 := xFH (S'.map (txt fs)) (txt fs i)
 rw [show S'.map (txt fs) ++ [txt fs i] = (S' ++ [i]).map (txt fs) by simp] at happ2
 have hSl : (S' ++ xAG n).length = S'.length + chn n.op := by rw [List.length_append,hkl]
 rw [List.length_map,hSl] at htl
 rw [hSl] at e1 ⊢
 have hsub : ((S'.length + chn n.op : Nat) : Int) - (chn n.op : Nat) = (S'.length : Nat) := by omega
 have hsubN : S'.length + chn n.op - S'.length = chn n.op := by omega
 have hle : S'.length ≤ S'.length + chn n.op := by omega
 have hfr := fun d H => xEp d H (hdW n ++ (xAG n).map (txt fs))
 have hwr : wrp n.op (Lib.join (hdW n ++ (xAG n).map (txt fs)) [32]) = Lib.join (hdW n ++ (xAG n).map (txt fs)) [32] := by unfold wrp; rw [if_pos h1]
 rw [hwr] at ht
 rw [ht] at happ2
 have hc1 : (((n.op : Nat) : Int) = 1) = True := by simp; omega
 have hbd := xAK n.op
 have hal := hv.al
 have hwd : sts [opB n.op] = [.str (fnm n.op)] := by rw [xYu]; rfl
 rw [hwd,show ((0 : Nat) : Int) = 0 from rfl] at e1
 generalize Lib.join (hdW n ++ (xAG n).map (txt fs)) [32] = J at *
 generalize sts (hdW n ++ (xAG n).map (txt fs)) = LW at *
 generalize sts (hdW n) = LH at *
 generalize sts ((xAG n).map (txt fs)) = LK at *
 generalize sts ((S' ++ xAG n).map (txt fs)) = LT at *
 generalize sts ((S' ++ [i]).map (txt fs)) = LN at *
 generalize sts (S'.map (txt fs)) = LS at *
 clear hJ hg1 hwr ht hkl hWl
 generalize S'.length = a at *
 refine ⟨List.set (List.set G1 ow Blk.dead ++ [Blk.cells false false LW]) o Blk.dead ++ [Blk.cells false false LN],G1.length + 1,?_,by rw [List.getElem?_append_right (by simp)]; simp⟩
 unfold Nd.c at e1 hx1
 rw [hnv] at e1 hx1
 rw [xGQ]
 simp (maxSteps := 30000000) (disch := first|exact D5|fail) only [xEM,WB,hltI,↓reduceIte,xAN,Nd.c,hn,hnv,AV.cells,AV.isCell,Nat.reduceAdd,xCe,xDS,hf,xAO,xAt,xIK,xUu,xFE,e1,hx2,hsub,hsubN,go1,htd,hkt,g1,hh2,happ1,xBl,htw,hfr,hJ',xA6,xBK,hx1,hc1,Nat.reduceBEq,xFO,htk,happ2,xFF]
theorem xUH (hJ : xIZ) (hl : fs.length ≤ 64) (hlt : i < fs.length) (hn : fs.getD i nd0 = n) (hv : Vn i n) (h1 : n.op = 1) (hk : xAG n = [])
  (hjl : (Lib.join (hdW n) [32]).length ≤ 100000) (ht : txt fs i = wrp n.op (Lib.join (hdW n) [32])) {G : Heap} :
  ∃ G' o',L.loop xBp xCs ⟨F38 fz fs (.sl true 0 []) i,G⟩ = L.loop xBp xCs ⟨F38 fz fs (.own false o' 0 1 1) (i + 1),G'⟩ ∧ G'[o']? = some (.cells false false (sts [txt fs i])) := by
 have h2 : n.op ≠ 2 := by omega
 have h7 : n.op ≠ 7 := by omega
 have hltI : ((i : Nat) : Int) < (fs.length : Nat) := by omega
 have hf := xDa n.op
 unfold foC at hf
 have b2 : decide (n.op = 2) = false := by simp [h2]
 have b7 : decide (n.op = 7) = false := by simp [h7]
 rw [b2,b7] at hf
 have hc0 : chn n.op = 0 := by rw [← xC3,hk]; rfl
 rw [hc0,show ((0 : Nat) : Int) = 0 from rfl] at hf
 obtain ⟨G1,ow,e1,b1,g1,k1⟩ := xE6 (s5 := .sl true 0 []) (s7 := .ptr G.length 0) (s8 := .ptr (G.length + 1) 0) (s19 := .sl fz fs.length (nds fs)) (s20 := .int .i64 (fs.length : Nat)) (s21 := .int .i64 (i : Nat)) (z := n.z) (B := G.length + 2) hv.ar hv.al n.args.length 0 (by omega)
  (G ++ [.cells false false n.c,.cells false false [.str (fnm n.op),.int .i64 0,.int .i64 (flo n.op : Nat),.int .i64 (fhi n.op : Nat),.bool false,.bool false],.cells false false (sts [opB n.op])]) (G.length + 2) 1 [opB n.op] (by omega) (by simp) rfl (by have := hv.al; omega)
  (by rw [List.getElem?_append_right (by omega),show G.length + 2 - G.length = 2 by omega]; rfl)
 have hx1 : G1[G.length]? = some (.cells false false n.c) := by rw [k1.2 _ (by omega),List.getElem?_append_right (Nat.le_refl _),Nat.sub_self]; rfl
 have hx2 : G1[G.length + 1]? = some (.cells false false [.str (fnm n.op),.int .i64 0,.int .i64 (flo n.op : Nat),.int .i64 (fhi n.op : Nat),.bool false,.bool false]) := by rw [k1.2 _ (by omega),List.getElem?_append_right (by omega),show G.length + 1 - G.length = 1 by omega]; rfl
 have hlen := k1.1
 have low := xAv g1
 have hnv : xBN n.z n.args = .sl n.z n.args.length (xAJ n.args) := rfl
 have hWl : (hdW n).length = 1 + n.args.length := by unfold hdW; rw [if_neg h2,if_neg h7]; simp; omega
 have hJ' := hJ _ (by rw [hWl]; omega) (by rw [hWl]; have := hv.al; omega) (Nat.le_trans hjl (by decide))
 have hg1 : [opB n.op] ++ (n.args.drop 0).map (fun t => [spB t]) = hdW n := by unfold hdW; rw [if_neg h2,if_neg h7]; rfl
 rw [hg1] at g1
 have hh1 := xAY (hdW n)
 have hWl1 : (hdW n).length = 1 + n.args.length := by unfold hdW; rw [if_neg h2,if_neg h7]; simp; omega
 have hh2 := xBi (hdW n)
 rw [hWl1] at hh1 hh2
 rw [hWl] at hJ'
 have happ2 : sts [txt fs i] = [zS (txt fs i)] := rfl
 rw [happ2]
 have hfr := fun d H => xEp d H (hdW n)
 have hwr : wrp n.op (Lib.join (hdW n) [32]) = Lib.join (hdW n) [32] := by unfold wrp; rw [if_pos h1]
 rw [hwr] at ht
 rw [ht]
 have hc1 : (((n.op : Nat) : Int) = 1) = True := by simp; omega
 have hbd := xAK n.op
 have hal := hv.al
 have hwd : sts [opB n.op] = [.str (fnm n.op)] := by rw [xYu]; rfl
 rw [hwd,show ((0 : Nat) : Int) = 0 from rfl] at e1
 generalize Lib.join (hdW n) [32] = J at *
 generalize sts (hdW n) = LH at *
 clear hJ hg1 hwr ht hWl
 refine ⟨List.set G1 ow Blk.dead ++ [Blk.cells false false LH,Blk.cells false false [zS J]],G1.length + 1,?_,by rw [List.getElem?_append_right (by simp)]; simp⟩
 unfold Nd.c at e1 hx1
 rw [hnv] at e1 hx1
 rw [xGQ]
 simp (maxSteps := 30000000) (disch := first|exact D5|fail) only [xEM,WB,hltI,↓reduceIte,xAN,Nd.c,hn,hnv,AV.cells,AV.isCell,Nat.reduceAdd,xCe,xDS,hf,xAO,xAt,xIK,xUu,xFE,e1,hx2,g1,hh2,xBl,hfr,hJ',xA6,xBK,hx1,hc1,Nat.reduceBEq,xFF]
theorem xUI (hJ : xIZ) (hl : fs.length ≤ 64) (hlt : i < fs.length) (hn : fs.getD i nd0 = n) (hv : Vn i n) (h2 : n.op = 2) (hnm : 0 ≤ n.name ∧ n.name ≤ 7) {S' : List Nat} (hS : S'.length ≤ 64)
  (hjl : (Lib.join (hdW n ++ (xAG n).map (txt fs)) [32]).length ≤ 100000) (ht : txt fs i = wrp n.op (Lib.join (hdW n ++ (xAG n).map (txt fs)) [32])) {o : Nat} {G : Heap}
  (go : G[o]? = some (.cells false false (sts ((S' ++ xAG n).map (txt fs))))) :
  ∃ G' o',L.loop xBp xCs ⟨F38 fz fs (.own false o 0 (S' ++ xAG n).length 1) i,G⟩ = L.loop xBp xCs ⟨F38 fz fs (.own false o' 0 (S'.length + 1) 1) (i + 1),G'⟩ ∧ G'[o']? = some (.cells false false (sts ((S' ++ [i]).map (txt fs)))) := by
 have h1 : n.op ≠ 1 := by omega
 have h7 : n.op ≠ 7 := by omega
 have hsl := fun H => xXq H hnm.1 hnm.2
 have hltI : ((i : Nat) : Int) < (fs.length : Nat) := by omega
 have hf := xDa n.op
 unfold foC at hf
 have b2 : decide (n.op = 2) = true := by simp [h2]
 have b7 : decide (n.op = 7) = false := by simp [h7,h2]
 rw [b2,b7] at hf
 have lo := xAv go
 obtain ⟨G1,ow,e1,b1,g1,k1⟩ := xE6 (s5 := .own false o 0 (S' ++ xAG n).length 1) (s7 := .ptr G.length 0) (s8 := .ptr (G.length + 1) 0) (s19 := .sl fz fs.length (nds fs)) (s20 := .int .i64 (fs.length : Nat)) (s21 := .int .i64 (i : Nat)) (z := n.z) (B := G.length + 2) hv.ar hv.al n.args.length 0 (by omega)
  (G ++ [.cells false false n.c,.cells false false [.str (fnm n.op),.int .i64 (chn n.op : Nat),.int .i64 (flo n.op : Nat),.int .i64 (fhi n.op : Nat),.bool true,.bool false],.dead,.cells false false (sts [opB n.op,[nmB n.name]])]) (G.length + 3) 2 [opB n.op,[nmB n.name]] (by omega) (by simp) rfl (by have := hv.al; omega)
  (by rw [List.getElem?_append_right (by omega),show G.length + 3 - G.length = 3 by omega]; rfl)
 have hx1 : G1[G.length]? = some (.cells false false n.c) := by rw [k1.2 _ (by omega),List.getElem?_append_right (Nat.le_refl _),Nat.sub_self]; rfl
 have hx2 : G1[G.length + 1]? = some (.cells false false [.str (fnm n.op),.int .i64 (chn n.op : Nat),.int .i64 (flo n.op : Nat),.int .i64 (fhi n.op : Nat),.bool true,.bool false]) := by rw [k1.2 _ (by omega),List.getElem?_append_right (by omega),show G.length + 1 - G.length = 1 by omega]; rfl
 have go1 : G1[o]? = some (.cells false false (sts ((S' ++ xAG n).map (txt fs)))) := by rw [k1.2 _ (by omega),List.getElem?_append_left lo]; exact go
 have lo1 := xAv go1
 have hlen := k1.1
 have low := xAv g1
 have hnv : xBN n.z n.args = .sl n.z n.args.length (xAJ n.args) := rfl
 have hkl := xC3 n
 have hWl : (hdW n ++ (xAG n).map (txt fs)).length = 2 + n.args.length + chn n.op := by unfold hdW; rw [if_pos h2,if_neg h7]; simp [hkl]; omega
 have hJ' := hJ _ (by rw [hWl]; omega) (by rw [hWl,← hkl]; have := hv.al; have := xAK n.op; omega) (Nat.le_trans hjl (by decide))
 have hg1 : [opB n.op,[nmB n.name]] ++ (n.args.drop 0).map (fun t => [spB t]) = hdW n := by unfold hdW; rw [if_pos h2,if_neg h7]; rfl
 rw [hg1] at g1
 have hh1 := xAY (hdW n)
 have hWl1 : (hdW n).length = 2 + n.args.length := by unfold hdW; rw [if_pos h2,if_neg h7]; simp; omega
 have hh2 := xBi (hdW n)
 rw [hWl1] at hh1 hh2
 have happ1 := xCt (hdW n) ((xAG n).map (txt fs))
 have hlw := xAY (hdW n ++ (xAG n).map (txt fs))
 have htw := xBi (hdW n ++ (xAG n).map (txt fs))
 rw [hWl] at hJ' hlw htw
 have htl := xAY ((S' ++ xAG n).map (txt fs))
 have htk : List.take S'.length (sts ((S' ++ xAG n).map (txt fs))) = sts (S'.map (txt fs)) := by
  rw [List.map_append,← xCt,List.take_left' (by simp [xAY])]
 have htd : List.drop S'.length (sts ((S' ++ xAG n).map (txt fs))) = sts ((xAG n).map (txt fs)) := by
  rw [List.map_append,← xCt,List.drop_left' (by simp [xAY])]
 have hkt := xBi ((xAG n).map (txt fs))
 rw [List.length_map,hkl] at hkt
 have happ2 := xFH (S'.map (txt fs)) (txt fs i)
 rw [show S'.map (txt fs) ++ [txt fs i] = (S' ++ [i]).map (txt fs) by simp] at happ2
 have hSl : (S' ++ xAG n).length = S'.length + chn n.op := by rw [List.length_append,hkl]
 rw [List.length_map,hSl] at htl
 rw [hSl] at e1 ⊢
 have hsub : ((S'.length + chn n.op : Nat) : Int) - (chn n.op : Nat) = (S'.length : Nat) := by omega
 have hsubN : S'.length + chn n.op - S'.length = chn n.op := by omega
 have hle : S'.length ≤ S'.length + chn n.op := by omega
 have hfr := fun d H => xEp d H (hdW n ++ (xAG n).map (txt fs))
 have hwr : wrp n.op (Lib.join (hdW n ++ (xAG n).map (txt fs)) [32]) = 40 :: (Lib.join (hdW n ++ (xAG n).map (txt fs)) [32] ++ [41]) := by unfold wrp; rw [if_neg h1]
 rw [hwr] at ht
 rw [ht] at happ2
 have hs1 : ∀ H,xRr H (zS [40]) (zS (Lib.join (hdW n ++ (xAG n).map (txt fs)) [32])) = some (zS (40 :: Lib.join (hdW n ++ (xAG n).map (txt fs)) [32]),H) := fun H => xEQ (a := [40]) H (by decide) (by omega)
 have hs2 : ∀ H,xRr H (zS (40 :: Lib.join (hdW n ++ (xAG n).map (txt fs)) [32])) (zS [41]) = some (zS (40 :: (Lib.join (hdW n ++ (xAG n).map (txt fs)) [32] ++ [41])),H) := fun H => xEQ (b := [41]) H (by simp; omega) (by decide)
 have hc1 : (((n.op : Nat) : Int) = 1) = False := by simp; omega
 have hbd := xAK n.op
 have hal := hv.al
 have hwd : sts [opB n.op,[nmB n.name]] = [.str (fnm n.op),zS [nmB n.name]] := by rw [xYu]; rfl
 rw [hwd,show ((0 : Nat) : Int) = 0 from rfl] at e1
 generalize Lib.join (hdW n ++ (xAG n).map (txt fs)) [32] = J at *
 generalize sts (hdW n ++ (xAG n).map (txt fs)) = LW at *
 generalize sts (hdW n) = LH at *
 generalize sts ((xAG n).map (txt fs)) = LK at *
 generalize sts ((S' ++ xAG n).map (txt fs)) = LT at *
 generalize sts ((S' ++ [i]).map (txt fs)) = LN at *
 generalize sts (S'.map (txt fs)) = LS at *
 clear hJ hg1 hwr ht hkl hWl
 generalize S'.length = a at *
 refine ⟨List.set (List.set G1 ow Blk.dead ++ [Blk.cells false false LW]) o Blk.dead ++ [Blk.cells false false LN],G1.length + 1,?_,by rw [List.getElem?_append_right (by simp)]; simp⟩
 unfold Nd.c at e1 hx1
 rw [hnv] at e1 hx1
 rw [xGQ]
 simp (maxSteps := 30000000) (disch := first|exact D5|fail) only [xEM,WB,hltI,↓reduceIte,xAN,Nd.c,hn,hnv,AV.cells,AV.isCell,Nat.reduceAdd,xCe,xDS,hf,xAO,xAt,xIK,xUu,xBu,hsl,Nat.reduceBEq,xFE,e1,hx2,hsub,hsubN,go1,htd,hkt,g1,hh2,happ1,xBl,htw,hfr,hJ',xA6,xBK,hx1,hc1,xIG,hs1,hs2,xFO,htk,happ2,xFF]
theorem xUJ (hJ : xIZ) (hl : fs.length ≤ 64) (hlt : i < fs.length) (hn : fs.getD i nd0 = n) (hv : Vn i n) (h2 : n.op = 2) (hnm : 0 ≤ n.name ∧ n.name ≤ 7) (hk : xAG n = [])
  (hjl : (Lib.join (hdW n) [32]).length ≤ 100000) (ht : txt fs i = wrp n.op (Lib.join (hdW n) [32])) {G : Heap} :
  ∃ G' o',L.loop xBp xCs ⟨F38 fz fs (.sl true 0 []) i,G⟩ = L.loop xBp xCs ⟨F38 fz fs (.own false o' 0 1 1) (i + 1),G'⟩ ∧ G'[o']? = some (.cells false false (sts [txt fs i])) := by
 have h1 : n.op ≠ 1 := by omega
 have h7 : n.op ≠ 7 := by omega
 have hsl := fun H => xXq H hnm.1 hnm.2
 have hltI : ((i : Nat) : Int) < (fs.length : Nat) := by omega
 have hf := xDa n.op
 unfold foC at hf
 have b2 : decide (n.op = 2) = true := by simp [h2]
 have b7 : decide (n.op = 7) = false := by simp [h7,h2]
 rw [b2,b7] at hf
 have hc0 : chn n.op = 0 := by rw [← xC3,hk]; rfl
 rw [hc0,show ((0 : Nat) : Int) = 0 from rfl] at hf
 obtain ⟨G1,ow,e1,b1,g1,k1⟩ := xE6 (s5 := .sl true 0 []) (s7 := .ptr G.length 0) (s8 := .ptr (G.length + 1) 0) (s19 := .sl fz fs.length (nds fs)) (s20 := .int .i64 (fs.length : Nat)) (s21 := .int .i64 (i : Nat)) (z := n.z) (B := G.length + 2) hv.ar hv.al n.args.length 0 (by omega)
  (G ++ [.cells false false n.c,.cells false false [.str (fnm n.op),.int .i64 0,.int .i64 (flo n.op : Nat),.int .i64 (fhi n.op : Nat),.bool true,.bool false],.dead,.cells false false (sts [opB n.op,[nmB n.name]])]) (G.length + 3) 2 [opB n.op,[nmB n.name]] (by omega) (by simp) rfl (by have := hv.al; omega)
  (by rw [List.getElem?_append_right (by omega),show G.length + 3 - G.length = 3 by omega]; rfl)
 have hx1 : G1[G.length]? = some (.cells false false n.c) := by rw [k1.2 _ (by omega),List.getElem?_append_right (Nat.le_refl _),Nat.sub_self]; rfl
 have hx2 : G1[G.length + 1]? = some (.cells false false [.str (fnm n.op),.int .i64 0,.int .i64 (flo n.op : Nat),.int .i64 (fhi n.op : Nat),.bool true,.bool false]) := by rw [k1.2 _ (by omega),List.getElem?_append_right (by omega),show G.length + 1 - G.length = 1 by omega]; rfl
 have hlen := k1.1
 have low := xAv g1
 have hnv : xBN n.z n.args = .sl n.z n.args.length (xAJ n.args) := rfl
 have hWl : (hdW n).length = 2 + n.args.length := by unfold hdW; rw [if_pos h2,if_neg h7]; simp; omega
 have hJ' := hJ _ (by rw [hWl]; omega) (by rw [hWl]; have := hv.al; omega) (Nat.le_trans hjl (by decide))
 have hg1 : [opB n.op,[nmB n.name]] ++ (n.args.drop 0).map (fun t => [spB t]) = hdW n := by unfold hdW; rw [if_pos h2,if_neg h7]; rfl
 rw [hg1] at g1
 have hh1 := xAY (hdW n)
 have hWl1 : (hdW n).length = 2 + n.args.length := by unfold hdW; rw [if_pos h2,if_neg h7]; simp; omega
 have hh2 := xBi (hdW n)
 rw [hWl1] at hh1 hh2
 rw [hWl] at hJ'
 have happ2 : sts [txt fs i] = [zS (txt fs i)] := rfl
 rw [happ2]
 have hfr := fun d H => xEp d H (hdW n)
 have hwr : wrp n.op (Lib.join (hdW n) [32]) = 40 :: (Lib.join (hdW n) [32] ++ [41]) := by unfold wrp; rw [if_neg h1]
 rw [hwr] at ht
 rw [ht]
 have hs1 : ∀ H,xRr H (zS [40]) (zS (Lib.join (hdW n) [32])) = some (zS (40 :: Lib.join (hdW n) [32]),H) := fun H => xEQ (a := [40]) H (by decide) (by omega)
 have hs2 : ∀ H,xRr H (zS (40 :: Lib.join (hdW n) [32])) (zS [41]) = some (zS (40 :: (Lib.join (hdW n) [32] ++ [41])),H) := fun H => xEQ (b := [41]) H (by simp; omega) (by decide)
 have hc1 : (((n.op : Nat) : Int) = 1) = False := by simp; omega
 have hbd := xAK n.op
 have hal := hv.al
 have hwd : sts [opB n.op,[nmB n.name]] = [.str (fnm n.op),zS [nmB n.name]] := by rw [xYu]; rfl
 rw [hwd,show ((0 : Nat) : Int) = 0 from rfl] at e1
 generalize Lib.join (hdW n) [32] = J at *
 generalize sts (hdW n) = LH at *
 clear hJ hg1 hwr ht hWl
 refine ⟨List.set G1 ow Blk.dead ++ [Blk.cells false false LH,Blk.cells false false [zS (40 :: (J ++ [41]))]],G1.length + 1,?_,by rw [List.getElem?_append_right (by simp)]; simp⟩
 unfold Nd.c at e1 hx1
 rw [hnv] at e1 hx1
 rw [xGQ]
 simp (maxSteps := 30000000) (disch := first|exact D5|fail) only [xEM,WB,hltI,↓reduceIte,xAN,Nd.c,hn,hnv,AV.cells,AV.isCell,Nat.reduceAdd,xCe,xDS,hf,xAO,xAt,xIK,xUu,xBu,hsl,Nat.reduceBEq,xFE,e1,hx2,g1,hh2,xBl,hfr,hJ',xA6,xBK,hx1,hc1,xIG,hs1,hs2,xFF]
theorem xUK (hJ : xIZ) (hl : fs.length ≤ 64) (hlt : i < fs.length) (hn : fs.getD i nd0 = n) (hv : Vn i n) (h7 : n.op = 7) {S' : List Nat} (hS : S'.length ≤ 64)
  (hjl : (Lib.join (hdW n ++ (xAG n).map (txt fs)) [32]).length ≤ 100000) (ht : txt fs i = wrp n.op (Lib.join (hdW n ++ (xAG n).map (txt fs)) [32])) {o : Nat} {G : Heap}
  (go : G[o]? = some (.cells false false (sts ((S' ++ xAG n).map (txt fs))))) :
  ∃ G' o',L.loop xBp xCs ⟨F38 fz fs (.own false o 0 (S' ++ xAG n).length 1) i,G⟩ = L.loop xBp xCs ⟨F38 fz fs (.own false o' 0 (S'.length + 1) 1) (i + 1),G'⟩ ∧ G'[o']? = some (.cells false false (sts ((S' ++ [i]).map (txt fs)))) := by
 have h1 : n.op ≠ 1 := by omega
 have h2 : n.op ≠ 2 := by omega
 have hx0 := hv.ex h7
 have hsl := fun H => xXp (t := n.x) H (by omega) (by omega)
 have hltI : ((i : Nat) : Int) < (fs.length : Nat) := by omega
 have hf := xDa n.op
 unfold foC at hf
 have b2 : decide (n.op = 2) = false := by simp [h2]
 have b7 : decide (n.op = 7) = true := by simp [h7]
 rw [b2,b7] at hf
 have lo := xAv go
 obtain ⟨G1,ow,e1,b1,g1,k1⟩ := xE6 (s5 := .own false o 0 (S' ++ xAG n).length 1) (s7 := .ptr G.length 0) (s8 := .ptr (G.length + 1) 0) (s19 := .sl fz fs.length (nds fs)) (s20 := .int .i64 (fs.length : Nat)) (s21 := .int .i64 (i : Nat)) (z := n.z) (B := G.length + 2) hv.ar hv.al n.args.length 0 (by omega)
  (G ++ [.cells false false n.c,.cells false false [.str (fnm n.op),.int .i64 (chn n.op : Nat),.int .i64 (flo n.op : Nat),.int .i64 (fhi n.op : Nat),.bool false,.bool true],.dead,.cells false false (sts [opB n.op,[spB n.x]])]) (G.length + 3) 2 [opB n.op,[spB n.x]] (by omega) (by simp) rfl (by have := hv.al; omega)
  (by rw [List.getElem?_append_right (by omega),show G.length + 3 - G.length = 3 by omega]; rfl)
 have hx1 : G1[G.length]? = some (.cells false false n.c) := by rw [k1.2 _ (by omega),List.getElem?_append_right (Nat.le_refl _),Nat.sub_self]; rfl
 have hx2 : G1[G.length + 1]? = some (.cells false false [.str (fnm n.op),.int .i64 (chn n.op : Nat),.int .i64 (flo n.op : Nat),.int .i64 (fhi n.op : Nat),.bool false,.bool true]) := by rw [k1.2 _ (by omega),List.getElem?_append_right (by omega),show G.length + 1 - G.length = 1 by omega]; rfl
 have go1 : G1[o]? = some (.cells false false (sts ((S' ++ xAG n).map (txt fs)))) := by rw [k1.2 _ (by omega),List.getElem?_append_left lo]; exact go
 have lo1 := xAv go1
 have hlen := k1.1
 have low := xAv g1
 have hnv : xBN n.z n.args = .sl n.z n.args.length (xAJ n.args) := rfl
 have hkl := xC3 n
 have hWl : (hdW n ++ (xAG n).map (txt fs)).length = 2 + n.args.length + chn n.op := by unfold hdW; rw [if_neg h2,if_pos h7]; simp [hkl]; omega
 have hJ' := hJ _ (by rw [hWl]; omega) (by rw [hWl,← hkl]; have := hv.al; have := xAK n.op; omega) (Nat.le_trans hjl (by decide))
 have hg1 : [opB n.op,[spB n.x]] ++ (n.args.drop 0).map (fun t => [spB t]) = hdW n := by unfold hdW; rw [if_neg h2,if_pos h7]; rfl
 rw [hg1] at g1
 have hh1 := xAY (hdW n)
 have hWl1 : (hdW n).length = 2 + n.args.length := by unfold hdW; rw [if_neg h2,if_pos h7]; simp; omega
 have hh2 := xBi (hdW n)
 rw [hWl1] at hh1 hh2
 have happ1 := xCt (hdW n) ((xAG n).map (txt fs))
 have hlw := xAY (hdW n ++ (xAG n).map (txt fs))
 have htw := xBi (hdW n ++ (xAG n).map (txt fs))
 rw [hWl] at hJ' hlw htw
 have htl := xAY ((S' ++ xAG n).map (txt fs))
 have htk : List.take S'.length (sts ((S' ++ xAG n).map (txt fs))) = sts (S'.map (txt fs)) := by
  rw [List.map_append,← xCt,List.take_left' (by simp [xAY])]
 have htd : List.drop S'.length (sts ((S' ++ xAG n).map (txt fs))) = sts ((xAG n).map (txt fs)) := by
  rw [List.map_append,← xCt,List.drop_left' (by simp [xAY])]
 have hkt := xBi ((xAG n).map (txt fs))
 rw [List.length_map,hkl] at hkt
 have happ2 := xFH (S'.map (txt fs)) (txt fs i)
 rw [show S'.map (txt fs) ++ [txt fs i] = (S' ++ [i]).map (txt fs) by simp] at happ2
 have hSl : (S' ++ xAG n).length = S'.length + chn n.op := by rw [List.length_append,hkl]
 rw [List.length_map,hSl] at htl
 rw [hSl] at e1 ⊢
 have hsub : ((S'.length + chn n.op : Nat) : Int) - (chn n.op : Nat) = (S'.length : Nat) := by omega
 have hsubN : S'.length + chn n.op - S'.length = chn n.op := by omega
 have hle : S'.length ≤ S'.length + chn n.op := by omega
 have hfr := fun d H => xEp d H (hdW n ++ (xAG n).map (txt fs))
 have hwr : wrp n.op (Lib.join (hdW n ++ (xAG n).map (txt fs)) [32]) = 40 :: (Lib.join (hdW n ++ (xAG n).map (txt fs)) [32] ++ [41]) := by unfold wrp; rw [if_neg h1]
 rw [hwr] at ht
 rw [ht] at happ2
 have hs1 : ∀ H,xRr H (zS [40]) (zS (Lib.join (hdW n ++ (xAG n).map (txt fs)) [32])) = some (zS (40 :: Lib.join (hdW n ++ (xAG n).map (txt fs)) [32]),H) := fun H => xEQ (a := [40]) H (by decide) (by omega)
 have hs2 : ∀ H,xRr H (zS (40 :: Lib.join (hdW n ++ (xAG n).map (txt fs)) [32])) (zS [41]) = some (zS (40 :: (Lib.join (hdW n ++ (xAG n).map (txt fs)) [32] ++ [41])),H) := fun H => xEQ (b := [41]) H (by simp; omega) (by decide)
 have hc1 : (((n.op : Nat) : Int) = 1) = False := by simp; omega
 have hbd := xAK n.op
 have hal := hv.al
 have hwd : sts [opB n.op,[spB n.x]] = [.str (fnm n.op),zS [spB n.x]] := by rw [xYu]; rfl
 rw [hwd,show ((0 : Nat) : Int) = 0 from rfl] at e1
 generalize Lib.join (hdW n ++ (xAG n).map (txt fs)) [32] = J at *
 generalize sts (hdW n ++ (xAG n).map (txt fs)) = LW at *
 generalize sts (hdW n) = LH at *
 generalize sts ((xAG n).map (txt fs)) = LK at *
 generalize sts ((S' ++ xAG n).map (txt fs)) = LT at *
 generalize sts ((S' ++ [i]).map (txt fs)) = LN at *
 generalize sts (S'.map (txt fs)) = LS at *
 clear hJ hg1 hwr ht hkl hWl
 generalize S'.length = a at *
 refine ⟨List.set (List.set G1 ow Blk.dead ++ [Blk.cells false false LW]) o Blk.dead ++ [Blk.cells false false LN],G1.length + 1,?_,by rw [List.getElem?_append_right (by simp)]; simp⟩
 unfold Nd.c at e1 hx1
 rw [hnv] at e1 hx1
 rw [xGQ]
 simp (maxSteps := 30000000) (disch := first|exact D5|fail) only [xEM,WB,hltI,↓reduceIte,xAN,Nd.c,hn,hnv,AV.cells,AV.isCell,Nat.reduceAdd,xCe,xDS,hf,xAO,xAt,xIK,xUu,xBu,hsl,Nat.reduceBEq,xFE,e1,hx2,hsub,hsubN,go1,htd,hkt,g1,hh2,happ1,xBl,htw,hfr,hJ',xA6,xBK,hx1,hc1,xIG,hs1,hs2,xFO,htk,happ2,xFF]
end
def GS (fs : List Nd) (G : Heap) (v : AV) (S : List Nat) : Prop := (S = [] ∧ v = .sl true 0 []) ∨ ∃ o,v = .own false o 0 S.length 1 ∧ G[o]? = some (.cells false false (sts (S.map (txt fs)))) ∧ S ≠ []
theorem xUL {n : Nd} {s : Nat} (h : xIQ n s = 0) : s ≠ 0 ∧ n.args.length ≤ 2 ∧ (0 ≤ n.name ∧ n.name ≤ 7) := by
 unfold xIQ at h
 split at h
 ·cases h
 split at h
 ·cases h
 rename_i h1
 split at h
 ·cases h
 rename_i h2
 unfold xYY at h1
 unfold xYZ at h2
 simp only [Bool.or_eq_true,Bool.and_eq_true,not_or,not_and,Bool.not_eq_true',decide_eq_true_eq,decide_eq_false_iff_not,Bool.not_eq_true,Bool.not_eq_false,Bool.not_eq_eq_eq_not,Bool.not_false,Bool.not_true] at h1 h2
 obtain ⟨⟨⟨⟨q1,q2⟩,q3⟩,q4⟩,q5⟩ := h1
 obtain ⟨⟨r1,r2⟩,r3⟩ := h2
 have hhi := xB5 n.op
 have q5' : ¬ fhi n.op < n.args.length := by simpa using q5
 have := wi_iff.1 (show wi 0 7 [n.name] = true by simpa using r1) n.name (by simp)
 exact ⟨by simpa using q3,by omega,this⟩
theorem xZn (op : Nat) : (opB op).length ≤ 8 := by
 unfold opB
 repeat' split
 all_goals decide
theorem xQG (a b : List (List UInt8)) : Lib.lens (a ++ b) = Lib.lens a + Lib.lens b := by simp [Lib.lens]
theorem xUM {α : Type} (l : List α) (f : α → UInt8) : Lib.lens (l.map fun t => [f t]) = l.length := by
 unfold Lib.lens
 rw [List.map_map]
 induction l with
 | nil => rfl
 | cons a l ih => simp [ih] at *; omega
theorem xZo {l : List Nat} {f : Nat → List UInt8} {g : Nat → Nat} (h : ∀ j ∈ l,(f j).length ≤ 20 * g j) : Lib.lens (l.map f) ≤ 20 * (l.map g).sum := by
 induction l with
 | nil => simp [Lib.lens]
 | cons a l ih =>
  have h1 := h a List.mem_cons_self
  have h2 := ih fun j hj => h j (List.mem_cons_of_mem _ hj)
  simp only [Lib.lens,List.map_cons,List.sum_cons] at h2 ⊢
  omega
theorem xLy {n : Nd} {T : List (List UInt8)} (ha : n.args.length ≤ 2) (hT : T.length ≤ 2) : (Lib.join (hdW n ++ T) [32]).length ≤ 16 + Lib.lens T := by
 unfold hdW
 rw [List.cons_append,Lib.join_length,← List.cons_append]
 rw [show opB n.op :: ((if n.op = 2 then [[nmB n.name]] else []) ++ ((if n.op = 7 then [[spB n.x]] else []) ++ n.args.map fun t => [spB t])) = [opB n.op] ++ ((if n.op = 2 then [[nmB n.name]] else []) ++ ((if n.op = 7 then [[spB n.x]] else []) ++ n.args.map fun t => [spB t])) from rfl]
 simp only [xQG,xUM,List.length_append,List.length_map]
 have h1 : Lib.lens [opB n.op] ≤ 8 := by have := xZn n.op; simp [Lib.lens]; omega
 have h2 : Lib.lens (if n.op = 2 then [[nmB n.name]] else []) = (if n.op = 2 then [[nmB n.name]] else []).length := by split <;> rfl
 have h3 : Lib.lens (if n.op = 7 then [[spB n.x]] else []) = (if n.op = 7 then [[spB n.x]] else []).length := by split <;> rfl
 have h4 : (if n.op = 2 then [[nmB n.name]] else []).length + (if n.op = 7 then [[spB n.x]] else []).length ≤ 1 := by
  by_cases c : n.op = 2
  ·rw [if_pos c,if_neg (by omega)]; simp
  ·rw [if_neg c]; split <;> simp
 rw [h2,h3]
 simp only [List.length_singleton]
 omega
theorem xQH (op : Nat) (s : List UInt8) : (wrp op s).length ≤ s.length + 2 := by unfold wrp; split <;> simp
section
variable {fz : Bool} {fs : List Nd}
theorem xZp (hJ : xIZ) (hl : fs.length ≤ 64) (hV : ∀ j,j < fs.length → Vn j (fs.getD j nd0)) : ∀ k i,i + k = fs.length → ∀ (G : Heap) (v : AV) (S os : List Nat),os.length = i → Bk os i S → GS fs G v S → szs (fs.drop i) os = szs fs [] → xFJ (fs.drop i) ((szs fs []).drop i) = 0 →
  (∀ j,j < i → (txt fs j).length ≤ 20 * os.getD j 0) → (∀ j,j < i → os.getD j 0 ≤ j + 1) →
  ∃ G' v' S',L.loop xBp xCs ⟨F38 fz fs v i,G⟩ = some (.exit 0,⟨F38 fz fs v' fs.length,G'⟩) ∧ GS fs G' v' S' ∧ Bk (szs fs []) fs.length S' := by
 intro k
 induction k with
 | zero =>
  intro i hi G v S os ho hB hg he hc hT hI
  obtain rfl : i = fs.length := by omega
  rw [List.drop_length] at he
  have he' : os = szs fs [] := he
  refine ⟨G,v,S,?_,hg,he' ▸ hB⟩
  rw [xGQ]
  simp (disch := omega) only [xEM,WB,↓reduceIte,xFF]
 | succ k ih =>
  intro i hi G v S os ho hB hg he hc hT hI
  have hlt : i < fs.length := by omega
  have em : fs.drop i = fs.getD i nd0 :: fs.drop (i + 1) := xDp hlt
  have hv := hV i hlt
  rw [em] at he hc
  rw [← he,← ho,xLn,ho] at hc
  have hte := xNB hV hlt
  generalize hn : fs.getD i nd0 = n at *
  have hcN : xIQ n (szN n os) = 0 := by
   unfold xFJ at hc
   split at hc
   ·assumption
   ·exact hc
  have hcL : xFJ (fs.drop (i + 1)) ((szs fs []).drop (i + 1)) = 0 := by
   unfold xFJ at hc
   rw [if_pos hcN] at hc
   rw [← he,szs]
   simpa [ho] using hc
  obtain ⟨hs0,ha2,hnm⟩ := xUL hcN
  obtain ⟨S',rfl,hB',hsz⟩ := Bk.step (n := n) (ho.symm ▸ hB) hs0
  rw [ho] at hB'
  have hkl := xC3 n
  have hch := xAK n.op
  have hkT : Lib.lens ((xAG n).map (txt fs)) ≤ 20 * ((xAG n).map fun j => os.getD j 0).sum := xZo fun j hj => hT j (xLj hv j hj)
  have hjl := xLy (n := n) (T := (xAG n).map (txt fs)) ha2 (by rw [List.length_map,hkl]; omega)
  have hle : szN n os ≤ i + 1 := by rw [← ho]; exact xUl n fun k hk => hI k (by omega)
  have hjl' : (Lib.join (hdW n ++ (xAG n).map (txt fs)) [32]).length ≤ 100000 := by omega
  have hS' : S'.length ≤ 64 := by have := hB.len; rw [List.length_append] at this; omega
  have next : ∀ (G1 : Heap) (o : Nat),G1[o]? = some (.cells false false (sts ((S' ++ [i]).map (txt fs)))) →
    ∃ G' v' Sf,L.loop xBp xCs ⟨F38 fz fs (.own false o 0 (S'.length + 1) 1) (i + 1),G1⟩ = some (.exit 0,⟨F38 fz fs v' fs.length,G'⟩) ∧ GS fs G' v' Sf ∧ Bk (szs fs []) fs.length Sf := by
   intro G1 o go
   refine ih (i + 1) (by omega) G1 (.own false o 0 (S'.length + 1) 1) (S' ++ [i]) (os ++ [szN n os]) (by simp [ho]) hB' (.inr ⟨o,by simp,go,by simp⟩) (by rw [← he,szs]) hcL (fun j hj => ?_) (fun j hj => ?_)
   ·by_cases c : j < i
    ·rw [List.getD_eq_getElem?_getD,List.getElem?_append_left (by omega),← List.getD_eq_getElem?_getD]; exact hT j c
    ·obtain rfl : j = i := by omega
     rw [← ho,xCo,ho,hte]
     have := xQH n.op (Lib.join (hdW n ++ (xAG n).map (txt fs)) [32])
     omega
   ·by_cases c : j < i
    ·rw [List.getD_eq_getElem?_getD,List.getElem?_append_left (by omega),← List.getD_eq_getElem?_getD]; exact hI j c
    ·obtain rfl : j = i := by omega
     rw [← ho,xCo,ho]; exact hle
  rcases hg with ⟨hS0,rfl⟩ | ⟨o,rfl,go,hne⟩
  ·obtain ⟨rfl,hk0⟩ := List.append_eq_nil_iff.1 hS0
   have hx7 : n.op ≠ 7 := by
    intro e
    have : chn n.op = 0 := by rw [← hkl,hk0]; rfl
    rw [e] at this; cases this
   have hjl0 : (Lib.join (hdW n) [32]).length ≤ 100000 := by rw [hk0] at hjl'; simpa using hjl'
   have hte0 : txt fs i = wrp n.op (Lib.join (hdW n) [32]) := by rw [hk0] at hte; simpa using hte
   have : ∃ G' o',L.loop xBp xCs ⟨F38 fz fs (.sl true 0 []) i,G⟩ = L.loop xBp xCs ⟨F38 fz fs (.own false o' 0 1 1) (i + 1),G'⟩ ∧ G'[o']? = some (.cells false false (sts [txt fs i])) := by
    by_cases c1 : n.op = 1
    ·exact xUH hJ hl hlt hn hv c1 hk0 hjl0 hte0
    by_cases c2 : n.op = 2
    ·exact xUJ hJ hl hlt hn hv c2 hnm hk0 hjl0 hte0
    ·exact xUF hJ hl hlt hn hv c1 c2 hx7 hk0 hjl0 hte0
   obtain ⟨G1,o,e1,g1⟩ := this
   obtain ⟨G',v',S2,e2,r⟩ := next G1 o g1
   exact ⟨G',v',S2,e1.trans e2,r⟩
  ·have : ∃ G' o',L.loop xBp xCs ⟨F38 fz fs (.own false o 0 (S' ++ xAG n).length 1) i,G⟩ = L.loop xBp xCs ⟨F38 fz fs (.own false o' 0 (S'.length + 1) 1) (i + 1),G'⟩ ∧ G'[o']? = some (.cells false false (sts ((S' ++ [i]).map (txt fs)))) := by
    by_cases c1 : n.op = 1
    ·exact xUG hJ hl hlt hn hv c1 hS' hjl' hte go
    by_cases c2 : n.op = 2
    ·exact xUI hJ hl hlt hn hv c2 hnm hS' hjl' hte go
    by_cases c7 : n.op = 7
    ·exact xUK hJ hl hlt hn hv c7 hS' hjl' hte go
    ·exact xUE hJ hl hlt hn hv c1 c2 c7 hS' hjl' hte go
   obtain ⟨G1,o,e1,g1⟩ := this
   obtain ⟨G',v',S2,e2,r⟩ := next G1 o g1
   exact ⟨G',v',S2,e1.trans e2,r⟩
def fmt (fs : List Nd) : List UInt8 := if chk fs = 0 then txt fs (fs.length - 1) else []
theorem xWk (hJ : xIZ) (h47 : fs.length < 1000) : L.pcall 38 [.sl fz fs.length (nds fs)] = some (.tup [zS (fmt fs),.int .i64 (chk fs : Nat)]) := by
 have h34 := xOK fz fs h47
 unfold fmt
 by_cases hc : chk fs = 0
 ·obtain ⟨h0,hl,hV⟩ := xNC hc
  rw [hc] at h34 ⊢
  rw [if_pos rfl]
  unfold chk at hc
  rw [if_neg (by omega),if_neg (by omega)] at hc
  split at hc
  case isFalse q => exact absurd hc q
  rename_i hcl
  split at hc
  case isFalse => cases hc
  rename_i hlast
  obtain ⟨G',v',S',e1,g1,b1⟩ := xZp (fz := fz) hJ hl hV fs.length 0 (by omega) [] (.sl true 0 []) [] [] rfl .nil (.inl ⟨rfl,rfl⟩) rfl (by simpa using hcl) (by intro j hj; omega) (by intro j hj; omega)
  have e1' : L.loop xBp xCs ⟨xIw (.sl true 0 []) (.sl fz fs.length (nds fs)) (.int .i64 (fs.length : Nat)) (.int .i64 0),[]⟩ = _ := e1
  obtain ⟨S2,rfl,h2,-,-⟩ := b1.top h0
  rw [hlast,Nat.sub_self] at h2
  have hS2 : S2 = [] := by
   rcases h2.inv with ⟨_,e⟩ | ⟨j,_,_,e,_⟩
   ·exact e
   ·omega
  subst hS2
  rcases g1 with ⟨e,_⟩ | ⟨o,rfl,go,hne⟩
  ·simp at e
  have go' : G'[o]? = some (.cells false false [zS (txt fs (fs.length - 1))]) := go
  have e1'' : L.loop xBp xCs ⟨xIw (.sl true 0 []) (.sl fz fs.length (nds fs)) (.int .i64 (fs.length : Nat)) (.int .i64 0),[]⟩ = some (.exit 0,⟨xIw (.own false o 0 1 1) (.sl fz fs.length (nds fs)) (.int .i64 (fs.length : Nat)) (.int .i64 (fs.length : Nat)),G'⟩) := e1'
  rw [yC6,a38,xAd]
  simp (maxSteps := 30000000) (disch := first|exact D5|fail) only [WB,Nat.reduceSub,h34,xAO,xAt,↓reduceIte,xFF,e1'',go']
 ·rw [if_neg hc]
  have hcI : (((chk fs : Nat) : Int) = 0) = False := by simp; omega
  rw [yC6,a38,xAd]
  simp (maxSteps := 30000000) (disch := first|exact D5|fail) only [WB,Nat.reduceSub,h34,xAO,xAt,↓reduceIte,hcI]
end
theorem xZq {n : Nd} {s : Nat} (h : xIQ n s = 0) : Hd n ∧ s ≠ 0 := by
 unfold xIQ at h
 split at h
 ·cases h
 rename_i h0
 split at h
 ·cases h
 rename_i h1
 split at h
 ·cases h
 rename_i h2
 have ho := xXs (by simpa using h0)
 unfold xYY at h1
 unfold xYZ at h2
 simp only [Bool.or_eq_true,Bool.and_eq_true,not_or,not_and,Bool.not_eq_true',decide_eq_true_eq,decide_eq_false_iff_not,Bool.not_eq_true,Bool.not_eq_false,Bool.not_eq_eq_eq_not,Bool.not_false,Bool.not_true] at h1 h2
 obtain ⟨⟨⟨⟨q1,q2⟩,q3⟩,q4⟩,q5⟩ := h1
 obtain ⟨⟨r1,r2⟩,r3⟩ := h2
 have q4' : ¬ n.args.length < flo n.op := by simpa using q4
 have q5' : ¬ fhi n.op < n.args.length := by simpa using q5
 have hnm := wi_iff.1 (show wi 0 7 [n.name] = true by simpa using r1) n.name (by simp)
 refine ⟨⟨ho,hnm,fun e => ?_,fun e => wi_iff.1 (show wi 8 10 [n.x] = true by simpa using r2 e) n.x (by simp),fun e => ?_,by omega,by omega,wi_iff.1 (by simpa using r3)⟩,by simpa using q3⟩
 ·simpa using q1 e
 ·simpa using q2 e
theorem xQI : ∀ (fs : List Nd) (os : List Nat),xFJ fs ((szs fs os).drop os.length) = 0 → ∀ j,j < fs.length →
  xIQ (fs.getD j nd0) (szN (fs.getD j nd0) ((szs fs os).take (os.length + j))) = 0 ∧ (szs fs os).getD (os.length + j) 0 = szN (fs.getD j nd0) ((szs fs os).take (os.length + j))
 | [],os,_,j,hj => by simp at hj
 | n :: fs,os,h,j,hj => by
  rw [xLn] at h
  unfold xFJ at h
  split at h
  case isFalse q => exact absurd h q
  rename_i hc
  have hsz : szs (n :: fs) os = szs fs (os ++ [szN n os]) := rfl
  cases j with
  | zero =>
   have h1 := xHi (n :: fs) os
   have h2 := xHi fs (os ++ [szN n os])
   rw [Nat.add_zero,h1]
   refine ⟨hc,?_⟩
   have h3 : (szs (n :: fs) os).getD os.length 0 = ((szs (n :: fs) os).take (os.length + 1)).getD os.length 0 := by
    rw [List.getD_eq_getElem?_getD,List.getD_eq_getElem?_getD,List.getElem?_take_of_lt (by omega)]
   rw [h3,hsz]
   rw [List.length_append,List.length_singleton] at h2
   rw [h2,xCo]
   rfl
  | succ j =>
   have := xQI fs (os ++ [szN n os]) h j (by simpa using hj)
   rw [hsz,show os.length + (j + 1) = (os ++ [szN n os]).length + j by simp; omega]
   exact this
theorem xXz : ∀ (fs : List Nd) (os : List Nat),(∀ k,k < os.length → os.getD k 0 ≤ k + 1) → ∀ k,k < (szs fs os).length → (szs fs os).getD k 0 ≤ k + 1
 | [],os,h => h
 | n :: fs,os,h => by
  refine xXz fs (os ++ [szN n os]) fun k hk => ?_
  rw [List.length_append,List.length_singleton] at hk
  by_cases c : k < os.length
  ·rw [List.getD_eq_getElem?_getD,List.getElem?_append_left c,← List.getD_eq_getElem?_getD]; exact h k c
  ·obtain rfl : k = os.length := by omega
   rw [xCo]; exact xUl n h
theorem xUN {n : Nd} {a b : Int} (hz : n.z = n.args.isEmpty) (ha : n.a = a) (hb : n.b = b) : n = ⟨n.op,n.name,n.args.isEmpty,n.args,n.x,a,b⟩ := by
 obtain ⟨op,name,z,args,x,a',b'⟩ := n
 simp only at hz ha hb ⊢
 rw [hz,ha,hb]
theorem xGz {fs : List Nd} {p k m : Nat} : (fs.drop p).take (k + m) = (fs.drop p).take k ++ (fs.drop (p + k)).take m := by
 rw [List.take_add,List.drop_drop]
theorem xWl {fs : List Nd} {p : Nat} (h : p < fs.length) : (fs.drop p).take 1 = [fs.getD p nd0] := by
 rw [xDp h]; rfl
theorem xRw (n : Nd) (a : Tr) (p : Nat) : (Tr.t1 n a).nd p = a.nd p ++ [⟨n.op,n.name,n.args.isEmpty,n.args,n.x,((p + a.sz : Nat) : Int) - 1,0⟩] := rfl
theorem xRx (n : Nd) (a b : Tr) (p : Nat) : (Tr.t2 n a b).nd p = a.nd p ++ b.nd (p + a.sz) ++ [⟨n.op,n.name,n.args.isEmpty,n.args,n.x,((p + a.sz : Nat) : Int) - 1,((p + a.sz + b.sz : Nat) : Int) - 1⟩] := rfl
theorem yAX {fs : List Nd} (hc : xFJ fs (szs fs []) = 0) (hz : ∀ n ∈ fs,n.z = n.args.isEmpty) (hV : ∀ j,j < fs.length → Vn j (fs.getD j nd0)) (hI : ∀ j,j < fs.length → (szs fs []).getD j 0 ≤ j + 1) : ∀ j,j < fs.length →
  ∃ t : Tr,t.ok ∧ t.sz = (szs fs []).getD j 0 ∧ (fs.drop (j + 1 - t.sz)).take t.sz = t.nd (j + 1 - t.sz) ∧ txt fs j = t.tt := by
 intro j
 induction j using Nat.strongRecOn with
 | _ j ih =>
  intro hj
  have hall := xQI fs [] (by simpa using hc) j hj
  simp only [List.length_nil,Nat.zero_add] at hall
  obtain ⟨h1,h2⟩ := hall
  obtain ⟨hd,hs0⟩ := xZq h1
  have hlen : ((szs fs []).take j).length = j := by rw [List.length_take,xGv]; simp; omega
  have hgd : ∀ i,i < j → ((szs fs []).take j).getD i 0 = (szs fs []).getD i 0 := fun i hi => by
   rw [List.getD_eq_getElem?_getD,List.getElem?_take_of_lt hi,← List.getD_eq_getElem?_getD]
  have hte := xNB hV hj
  have hm : fs.getD j nd0 ∈ fs := by rw [List.getD_eq_getElem?_getD,List.getElem?_eq_getElem hj]; exact List.getElem_mem hj
  have hzn := hz _ hm
  have hone := xWl hj
  generalize hn : fs.getD j nd0 = n at *
  have hsz := h2
  rcases xAK n.op with c | c | c
  ·unfold szN at h2 hs0
   rw [if_pos c] at h2 hs0
   split at h2
   case isFalse q => rw [if_neg q] at hs0; exact absurd rfl hs0
   rename_i q
   refine ⟨.t0 n,⟨hd,c⟩,h2.symm,?_,?_⟩
   ·show (fs.drop (j + 1 - 1)).take 1 = _
    rw [Nat.add_sub_cancel,hone]
    unfold Tr.nd
    rw [← xUN hzn q.1 q.2]
   ·rw [hte]
    unfold xAG
    rw [if_neg (by omega),if_neg (by omega)]; rfl
  ·unfold szN at h2 hs0
   rw [if_neg (by omega)] at h2 hs0
   rw [hlen] at h2 hs0
   split at h2
   ·rename_i q; rw [if_pos q] at hs0; exact absurd rfl hs0
   rename_i q
   rw [if_neg q] at hs0
   rw [not_or] at q
   rw [if_pos c] at hs0
   split at h2
   case isFalse q2 => rw [if_neg q2] at hs0; exact absurd rfl hs0
   rename_i q2
   rw [hgd (j - 1) (by omega)] at h2
   obtain ⟨a,ha1,ha2,ha3,ha4⟩ := ih (j - 1) (by omega) (by omega)
   have hle := hI (j - 1) (by omega)
   have hap := a.sz_pos
   refine ⟨.t1 n a,⟨hd,c,ha1⟩,?_,?_,?_⟩
   ·show a.sz + 1 = _
    rw [h2,ha2]; omega
   ·show (fs.drop (j + 1 - (a.sz + 1))).take (a.sz + 1) = (Tr.t1 n a).nd (j + 1 - (a.sz + 1))
    rw [show j + 1 - (a.sz + 1) = j - 1 + 1 - a.sz by omega,xGz,ha3,show j - 1 + 1 - a.sz + a.sz = j by omega,hone,xRw]
    rw [← xUN hzn (by rw [q2.1]; omega) q2.2]
   ·rw [hte]
    unfold xAG
    rw [if_neg (by omega),if_pos c,q2.1]
    show wrp n.op (Lib.join (hdW n ++ [txt fs (j - 1)]) [32]) = _
    rw [ha4]; rfl
  ·unfold szN at h2 hs0
   rw [if_neg (by omega)] at h2 hs0
   rw [hlen] at h2 hs0
   split at h2
   ·rename_i q; rw [if_pos q] at hs0; exact absurd rfl hs0
   rename_i q
   rw [if_neg q] at hs0
   rw [not_or] at q
   rw [if_neg (by omega)] at h2 hs0
   split at h2
   ·rename_i q'; rw [if_pos q'] at hs0; exact absurd rfl hs0
   rename_i q'
   rw [if_neg q'] at hs0
   rw [not_or] at q'
   split at h2
   case isFalse q2 => rw [if_neg q2] at hs0; exact absurd rfl hs0
   rename_i q2
   rw [hgd (j - 1) (by omega)] at h2 q2 q'
   obtain ⟨b,hb1,hb2,hb3,hb4⟩ := ih (j - 1) (by omega) (by omega)
   have hbp := b.sz_pos
   rw [← hb2] at h2 q2 q'
   rw [hgd (j - b.sz - 1) (by omega)] at h2 q'
   obtain ⟨a,ha1,ha2,ha3,ha4⟩ := ih (j - b.sz - 1) (by omega) (by omega)
   have hap := a.sz_pos
   have hle := hI (j - 1) (by omega)
   have hle2 := hI (j - b.sz - 1) (by omega)
   refine ⟨.t2 n a b,⟨hd,c,ha1,hb1⟩,?_,?_,?_⟩
   ·show a.sz + b.sz + 1 = _
    rw [h2,ha2]; omega
   ·show (fs.drop (j + 1 - (a.sz + b.sz + 1))).take (a.sz + b.sz + 1) = (Tr.t2 n a b).nd (j + 1 - (a.sz + b.sz + 1))
    rw [show j + 1 - (a.sz + b.sz + 1) = j - b.sz - 1 + 1 - a.sz by omega,xGz,xGz,ha3,show j - b.sz - 1 + 1 - a.sz + a.sz = j - 1 + 1 - b.sz by omega,hb3,show j - b.sz - 1 + 1 - a.sz + (a.sz + b.sz) = j by omega,hone,xRx]
    rw [← xUN hzn (by rw [q2.1]; omega) (by rw [q2.2]; omega),show j - b.sz - 1 + 1 - a.sz + a.sz = j - 1 + 1 - b.sz by omega]
   ·rw [hte]
    unfold xAG
    rw [if_pos c,q2.1,q2.2]
    show wrp n.op (Lib.join (hdW n ++ [txt fs (j - b.sz - 1),txt fs (j - 1)]) [32]) = _
    rw [ha4,hb4]; rfl
theorem yAY {fs : List Nd} (h : chk fs = 0) (hz : ∀ n ∈ fs,n.z = n.args.isEmpty) : ∃ t : Tr,t.ok ∧ fs = t.nd 0 ∧ t.sz = fs.length ∧ txt fs (fs.length - 1) = t.tt ∧ opn fs fs.length (fs.length - 1) 0 = false := by
 obtain ⟨h0,hl,hV⟩ := xNC h
 unfold chk at h
 rw [if_neg (by omega),if_neg (by omega)] at h
 split at h
 case isFalse q => exact absurd h q
 rename_i hc
 split at h
 case isFalse => cases h
 rename_i hlast
 split at h
 ·cases h
 rename_i ho
 have hI : ∀ j,j < fs.length → (szs fs []).getD j 0 ≤ j + 1 := by
  intro j hj
  have := xXz fs [] (by simp) j (by rw [xGv]; simpa using hj)
  exact this
 obtain ⟨t,h1,h2,h3,h4⟩ := yAX hc hz hV hI (fs.length - 1) (by omega)
 rw [hlast] at h2
 rw [h2,show fs.length - 1 + 1 - fs.length = 0 by omega,List.drop_zero,List.take_length] at h3
 exact ⟨t,h1,h3,h2,h4,by simpa using ho⟩
theorem xLz {n : Nd} (h : Hd n) : n.args.length ≤ 2 := by
 have h1 := h.hi
 have h2 := xB5 n.op
 omega
theorem xOU {op : Nat} (h1 : 1 ≤ op) (h2 : op ≤ 10) : 1 ≤ (opB op).length := by
 have h : op = 1 ∨ op = 2 ∨ op = 3 ∨ op = 4 ∨ op = 5 ∨ op = 6 ∨ op = 7 ∨ op = 8 ∨ op = 9 ∨ op = 10 := by omega
 rcases h with rfl | rfl | rfl | rfl | rfl | rfl | rfl | rfl | rfl | rfl <;> decide
theorem xOV {n : Nd} (h : Hd n) (T : List (List UInt8)) : 1 + Lib.lens T ≤ (Lib.join (hdW n ++ T) [32]).length := by
 have h1 := xOU h.op.1 h.op.2
 unfold hdW
 rw [List.cons_append,Lib.join_length,← List.cons_append]
 rw [show opB n.op :: ((if n.op = 2 then [[nmB n.name]] else []) ++ ((if n.op = 7 then [[spB n.x]] else []) ++ n.args.map fun t => [spB t])) = [opB n.op] ++ ((if n.op = 2 then [[nmB n.name]] else []) ++ ((if n.op = 7 then [[spB n.x]] else []) ++ n.args.map fun t => [spB t])) from rfl]
 simp only [xQG]
 have h2 : 1 ≤ Lib.lens [opB n.op] := by simp [Lib.lens]; omega
 omega
theorem xUO (op : Nat) (s : List UInt8) : s.length ≤ (wrp op s).length := by unfold wrp; split <;> simp <;> omega
theorem xWm : ∀ t : Tr,t.ok → t.tt.length ≤ 20 * t.sz ∧ t.sz ≤ t.tt.length
 | .t0 n,⟨hd,hc⟩ => by
  have h1 := xLy (n := n) (T := []) (xLz hd) (by simp)
  have h2 := xQH n.op (Lib.join (hdW n ++ []) [32])
  have h3 := xOV hd []
  have h4 := xUO n.op (Lib.join (hdW n ++ []) [32])
  have h5 : Lib.lens [] = 0 := rfl
  unfold Tr.tt Tr.sz
  omega
 | .t1 n a,⟨hd,hc,ha⟩ => by
  have ih := xWm a ha
  have h1 := xLy (n := n) (T := [a.tt]) (xLz hd) (by simp)
  have h2 := xQH n.op (Lib.join (hdW n ++ [a.tt]) [32])
  have h3 := xOV hd [a.tt]
  have h4 := xUO n.op (Lib.join (hdW n ++ [a.tt]) [32])
  have h5 : Lib.lens [a.tt] = a.tt.length := by simp [Lib.lens]
  unfold Tr.tt Tr.sz
  omega
 | .t2 n a b,⟨hd,hc,ha,hb⟩ => by
  have ih := xWm a ha
  have ih2 := xWm b hb
  have h1 := xLy (n := n) (T := [a.tt,b.tt]) (xLz hd) (by simp)
  have h2 := xQH n.op (Lib.join (hdW n ++ [a.tt,b.tt]) [32])
  have h3 := xOV hd [a.tt,b.tt]
  have h4 := xUO n.op (Lib.join (hdW n ++ [a.tt,b.tt]) [32])
  have h5 : Lib.lens [a.tt,b.tt] = a.tt.length + b.tt.length := by simp [Lib.lens]
  unfold Tr.tt Tr.sz
  omega
theorem xWn {t : Tr} (h : t.ok) (hz : t.sz ≤ 64) : parse t.tt = if opn (t.nd 0) (t.nd 0).length ((t.nd 0).length - 1) 0 = true then ([],0,11) else (t.nd 0,0,0) := by
 have := xWm t h
 exact xVZ h hz (by omega) (by omega)
theorem xUP {fs : List Nd} (h : chk fs = 0) (hz : ∀ n ∈ fs,n.z = n.args.isEmpty) : parse (fmt fs) = (fs,0,0) := by
 obtain ⟨t,h1,h2,h3,h4,h5⟩ := yAY h hz
 have hl := (xNC h).2.1
 unfold fmt
 rw [if_pos h,h4,xWn h1 (by omega),← h2,h5]
 rfl
theorem xNG : ∀ W : List (List UInt8),xIT (sts W) = some W
 | [] => rfl
 | b :: W => by
  have : sts (b :: W) = zS b :: sts W := rfl
  rw [this]
  show (xIT (sts W)).map (b :: ·) = _
  rw [xNG W]; rfl
theorem xWo : xIZ := by
 intro W h1 h2 h3
 refine xBX rfl ?_
 show (if W.length = (sts W).length ∧ W.length ≤ 1000 ∧ 1 ≤ (⟨#[32]⟩ : ByteArray).size ∧ (⟨#[32]⟩ : ByteArray).size ≤ 1000 then (xIT (sts W)).bind fun l => if (Lib.join l [32]).length ≤ 1000000000 then some (AV.str ⟨(Lib.join l [32]).toArray⟩) else none else none) = _
 rw [if_pos ⟨(xAY W).symm,h2,by decide,by decide⟩,xNG]
 show (if (Lib.join W [32]).length ≤ 1000000000 then _ else none) = _
 rw [if_pos (by omega)]
theorem xCb (fz : Bool) {fs : List Nd} (h : fs.length < 1000) : L.pcall 38 [.sl fz fs.length (nds fs)] = some (.tup [zS (fmt fs),.int .i64 (chk fs : Nat)]) := xWk xWo h
theorem xIO {s : List UInt8} (h : pnp s = true) : L.pcall 12 [zS s] = some (.tup [.sl (parse s).1.isEmpty (parse s).1.length (nds (parse s).1),.int .i64 ((parse s).2.1 : Nat),.int .i64 ((parse s).2.2 : Nat)]) := by
 refine xBX rfl ?_
 show (if pnp s = true then some (AV.tup [.sl (parse s).1.isEmpty (parse s).1.length ((parse s).1.flatMap fun n => [.int .u8 (n.op : Nat),.int .i64 n.name,.sl n.z n.args.length (n.args.map (AV.int .i64)),.int .i64 n.x,.int .i64 n.a,.int .i64 n.b]),.int .i64 ((parse s).2.1 : Nat),.int .i64 ((parse s).2.2 : Nat)]) else none) = _
 rw [if_pos h]
 rfl
end Go.Abs.Events
