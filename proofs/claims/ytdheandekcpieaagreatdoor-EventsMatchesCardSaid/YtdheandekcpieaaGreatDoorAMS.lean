/- strings.IndexByte and strings.TrimLeft at this program: the shelf's contracts (as its plain mode lays them),and that they are what the interpreter's table says. -/
import Derived.Shelf.Strings.Search1
import Derived.Shelf.Strings.SlTrimAscii
import Derived.Shelf.Small.Strs
import Derived.Test.YtdheandekcpieaaGreatDoorProg
import Derived.Test.YtdheandekcpieaaGreatDoorAbsFix
import Derived.Test.YtdheandekcpieaaGreatDoorAbsThrow
import Derived.RecoverIn
import Derived.WalkLawsBesides
import Derived.Tactics2
import Derived.BigCall
import Derived.Deep.QuietTactic
import Derived.Shelf.Strings.Builder2
import Derived.Lib.Join
import Derived.WalkKit
set_option linter.unusedVariables false
namespace Go.Proofs
open Go.Shelf Go.RowKit
set_option maxHeartbeats 4000000
def Tryz.lays137_ren : Go.Shelf.Ren := ⟨fun | 137 => 95 | 217 => 116 | 266 => 125 | n => n,fun | 9 => 9 | 5 => 5 | 3 => 3 | n => n,fun | n => n⟩
theorem Tryz.lays137 : Go.Proofs.Lays.n137 Tryz.prog Tryz.lays137_ren := {
 mixed := by kernel_rfl
 f137 := Tryz.func95.trans (congrArg some (by kernel_rfl))
 f217 := Tryz.func116.trans (congrArg some (by kernel_rfl))
 f266 := Tryz.func125.trans (congrArg some (by kernel_rfl))
 t3 := Tryz.underlying3
 a3 := Tryz.isAgg3
 z3 := Tryz.sizeOf3
 v3 := Tryz.zeroValue3
 t5 := Tryz.underlying5
 a5 := Tryz.isAgg5
 z5 := Tryz.sizeOf5
 v5 := Tryz.zeroValue5
 t9 := Tryz.underlying9
 a9 := Tryz.isAgg9
 z9 := Tryz.sizeOf9
 v9 := Tryz.zeroValue9 }
def Tryz.lays161_ren : Go.Shelf.Ren := ⟨fun | 161 => 96 | 231 => 117 | 227 => 118 | 233 => 119 | 235 => 120 | 228 => 126 | 197 => 127 | 151 => 128 | 260 => 129 | 152 => 130 | 137 => 95 | 119 => 131 | 224 => 132 | 225 => 133 | 217 => 116 | 266 => 125 | n => n,fun | 9 => 9 | 4 => 4 | 3 => 3 | 5 => 5 | 117 => 170 | 116 => 169 | 0 => 0 | 124 => 173 | 105 => 176 | 21 => 21 | 119 => 181 | 46 => 69 | 139 => 184 | 138 => 183 | n => n,fun | 3 => 1 | 4 => 2 | n => n⟩
theorem Tryz.lays161 : Go.Proofs.Lays.n161 Tryz.prog Tryz.lays161_ren := {
 mixed := by kernel_rfl
 f119 := Tryz.func131.trans (congrArg some (by kernel_rfl))
 f137 := Tryz.func95.trans (congrArg some (by kernel_rfl))
 f151 := Tryz.func128.trans (congrArg some (by kernel_rfl))
 f152 := Tryz.func130.trans (congrArg some (by kernel_rfl))
 f161 := Tryz.func96.trans (congrArg some (by kernel_rfl))
 f197 := Tryz.func127.trans (congrArg some (by kernel_rfl))
 f217 := Tryz.func116.trans (congrArg some (by kernel_rfl))
 f224 := Tryz.func132.trans (congrArg some (by kernel_rfl))
 f225 := Tryz.func133.trans (congrArg some (by kernel_rfl))
 f227 := Tryz.func118.trans (congrArg some (by kernel_rfl))
 f228 := Tryz.func126.trans (congrArg some (by kernel_rfl))
 f231 := Tryz.func117.trans (congrArg some (by kernel_rfl))
 f233 := Tryz.func119.trans (congrArg some (by kernel_rfl))
 f235 := Tryz.func120.trans (congrArg some (by kernel_rfl))
 f260 := Tryz.func129.trans (congrArg some (by kernel_rfl))
 f266 := Tryz.func125.trans (congrArg some (by kernel_rfl))
 t0 := Tryz.underlying0
 a0 := Tryz.isAgg0
 z0 := Tryz.sizeOf0
 v0 := Tryz.zeroValue0
 t3 := Tryz.underlying3
 a3 := Tryz.isAgg3
 z3 := Tryz.sizeOf3
 v3 := Tryz.zeroValue3
 t4 := Tryz.underlying4
 a4 := Tryz.isAgg4
 z4 := Tryz.sizeOf4
 v4 := Tryz.zeroValue4
 t5 := Tryz.underlying5
 a5 := Tryz.isAgg5
 z5 := Tryz.sizeOf5
 v5 := Tryz.zeroValue5
 t9 := Tryz.underlying9
 a9 := Tryz.isAgg9
 z9 := Tryz.sizeOf9
 v9 := Tryz.zeroValue9
 t21 := Tryz.underlying21
 a21 := Tryz.isAgg21
 z21 := Tryz.sizeOf21
 v21 := Tryz.zeroValue21
 t46 := Tryz.underlying69
 a46 := Tryz.isAgg69
 z46 := Tryz.sizeOf69
 v46 := Tryz.zeroValue69
 t105 := Tryz.underlying176
 a105 := Tryz.isAgg176
 z105 := Tryz.sizeOf176
 v105 := Tryz.zeroValue176
 t116 := Tryz.underlying169
 a116 := Tryz.isAgg169
 z116 := Tryz.sizeOf169
 t117 := Tryz.underlying170
 a117 := Tryz.isAgg170
 z117 := Tryz.sizeOf170
 v117 := Tryz.zeroValue170
 t119 := Tryz.underlying181
 a119 := Tryz.isAgg181
 z119 := Tryz.sizeOf181
 t124 := Tryz.underlying173
 a124 := Tryz.isAgg173
 z124 := Tryz.sizeOf173
 v124 := Tryz.zeroValue173
 t138 := Tryz.underlying183
 a138 := Tryz.isAgg183
 z138 := Tryz.sizeOf183
 v138 := Tryz.zeroValue183
 t139 := Tryz.underlying184
 a139 := Tryz.isAgg184
 z139 := Tryz.sizeOf184
 v139 := Tryz.zeroValue184
 g3 := by kernel_rfl
 g4 := by kernel_rfl }
open Go.Abs in
theorem Ev.same {im : Im} {w w' : World} (hI : xLq im w) (hb : Below w.heap.size w w') : xLq im w' :=
 ⟨fun b o hbo => by
  have := hI.1 b o hbo
  have hlt : b < w.heap.size := (Array.getElem?_eq_some_iff.1 this).1
  rw [hb.block b hlt]; exact this,hI.2⟩
open Go.Abs in
theorem Ev.idx (im : Im) (w : World) (vs : List Value) (s : ByteArray) (c : Int) (hI : xLq im w) (hr : Reps im xCE [.str s,.int .u8 c] vs) :
  Calls Tryz.prog 95 vs.toArray w (xEy im w (.int .i64 (Lib.indexByte s.data.toList c.toNat.toUInt8))) := by
 obtain ⟨hl,hr⟩ := hr
 match vs,hl with
 | [x,y],_ =>
  have hx := hr 0 _ x rfl rfl
  have hy := hr 1 _ y rfl rfl
  cases hx; cases hy
  refine (show Calls Tryz.prog 95 #[.string s,.int .u8 c] w _ from Any.strings_IndexByte Tryz.lays137 s c w).mono ?_
  rintro e w' ⟨rfl,rfl⟩
  exact ⟨_,im,rfl,ImLe.refl _,hI,fun b o hbo => .inl hbo,Below.refl _ _,.int⟩
open Go.Abs in
theorem Ev.trim (im : Im) (w : World) (vs : List Value) (s t : ByteArray) (ha : ∀ b ∈ t.data.toList,b.toNat < 128) (ht : t.size < 4294967281) (hI : xLq im w) (hr : Reps im xCE [.str s,.str t] vs) :
  Calls Tryz.prog 96 vs.toArray w (xEy im w (.str ⟨(Lib.trimLeftS s.data.toList t.data.toList).toArray⟩)) := by
 obtain ⟨hl,hr⟩ := hr
 match vs,hl with
 | [x,y],_ =>
  have hx := hr 0 _ x rfl rfl
  have hy := hr 1 _ y rfl rfl
  cases hx; cases hy
  refine (show Calls Tryz.prog 96 #[.string s,.string t] w _ from Any.strings_TrimLeft_laid Tryz.lays161 (by kernel_rfl) s t w ht (fun j b hj => ha b (List.mem_of_getElem? hj))).mono ?_
  rintro e w' ⟨rfl,hb⟩
  exact ⟨_,im,rfl,ImLe.refl _,Ev.same hI hb,fun b o hbo => .inl hbo,hb,.str⟩
end Go.Proofs
/- Parse's deferred function,as it is entered when Parse returns and when it panics with a parser's error. -/
set_option linter.unusedVariables false
set_option linter.unusedSimpArgs false
namespace Go.Proofs
open Go.RowKit Go.Abs
set_option maxRecDepth 100000 in
theorem Ev.idle (n : Nat) (p q r : Value) (w : World) :
  CallsDIn (Fw none) n Tryz.prog 52 #[p,q,r] .returning w fun e u' w' => e = .returned (.tuple #[]) ∧ u' = .returning ∧ w' = w := by
 refine callsDIn_of_wpSIn Tryz.func52 rfl trivial fun c₀ cs hu => ?_
 simp only [Tryz.ntmps52,List.size_toArray,List.length_cons,List.length_nil,Nat.reduceAdd,Nat.reduceSub,Array.replicate_succ,Array.replicate_zero,List.push_toArray,List.append_toArray,List.nil_append,List.cons_append]
 apply wpSIn_seq
 apply wpSIn_region
 simp [wpOpsSIn,go_sem,recoverD,hu,Exit.thenS]
 refine wpSIn_of_wpIn rfl (wpIn_wide.2 ?_)
 go_wp2
 cases c₀
 simp_all [bodyPostS,results,Tryz.results52]
theorem Ev.as82 (v : Value) (w : World) : (Instr.typeAssert (.iface 102 v) 20 102 true).run Tryz.prog w = .ok (.tuple #[v,.bool true]) w := by kernel_rfl
def xP3 : ACode := .drawl [(12,(1,(0,1))),(14,(1,(0,1))),(14,(1,(1,1)))] 4 [⟨some 12,.faddr 0 (.t 4),none⟩,
      ⟨some 13,.load false 1 (.t 12),none⟩,
      ⟨some 14,.faddr 1 (.t 4),none⟩,
      ⟨some 15,.load false 1 (.t 14),none⟩,
      ⟨none,.store 1 (.t 0) (.c (.sl true 0 [])),none⟩,
      ⟨none,.store 1 (.t 1) (.t 13),none⟩,
      ⟨none,.store 1 (.t 2) (.t 15),none⟩]
def xUj (p q r : AV) (H : Heap) : List AV := [p,q,r,.any,.ptr H.length 0,.any,.any,.any,.any,.any,.any,.any,.any,.any,.any,.any]
set_option maxRecDepth 100000 in
theorem Ev.caught {R : Rec} (hR : RecOk (xAl Tryz.prog) Tryz.prog R) (hL : LoopOk Tryz.prog R) (n : Nat) (p q r : Value) (a e : Int) (im : Im) (io : Io) (w : World) (H : Heap) (cp cq cr : AV) (s4 : St)
  (hS : Sim (xAl Tryz.prog) im io H w) (hp : Rep im io cp p) (hq : Rep im io cq q) (hr : Rep im io cr r)
  (hrun : run R xP3 ⟨xUj cp cq cr H,H ++ [.cells false false [.int .i64 a,.int .i64 e]]⟩ = some (.normal,s4)) :
  CallsDIn (Fw none) n Tryz.prog 52 #[p,q,r] (.panicking [{ v := .iface 102 (.agg #[.int .i64 a,.int .i64 e]),recovered := false }]) w fun en u' w' =>
   en = .returned (.tuple #[]) ∧ u' = .panicking [{ v := .iface 102 (.agg #[.int .i64 a,.int .i64 e]),recovered := true }] ∧ ∃ im' io',Step im io w im' io' w' ∧ Sim (xAl Tryz.prog) im' io' s4.H w' := by
 refine callsDIn_of_wpSIn Tryz.func52 rfl trivial fun c₀ cs hu => ?_
 simp only [Tryz.ntmps52,List.size_toArray,List.length_cons,List.length_nil,Nat.reduceAdd,Nat.reduceSub,Array.replicate_succ,Array.replicate_zero,List.push_toArray,List.append_toArray,List.nil_append,List.cons_append]
 apply wpSIn_seq
 apply wpSIn_region
 simp [wpOpsSIn,go_sem,recoverD,hu,Exit.thenS]
 refine wpSIn_of_wpIn rfl (wpIn_wide.2 ?_)
 go_wp2
 rw [Ev.as82]
 simp only [Result.andThen]
 rw [Oper.upon_value]
 go_wp2
 obtain ⟨hS1,hst⟩ := xDI (cs := [.int .i64 a,.int .i64 e]) (vs := [.int .i64 a,.int .i64 e]) hS (Pushed.alloc w (.cells #[.int .i64 a,.int .i64 e] 102)) (.inl rfl) (.cons .int (.cons .int .nil)) (by simp [AV.isCell]) (fun i v h => by simpa using h)
 have hb : ∀ {v : AV} {x : Value},Rep im io v x → Rep im (upd io H.length (w.heap.size,2)) v x := fun h => h.mono (.refl _) hst.io_le
 refine (wpIn_wide (n := n)).1 ?_
 show Code.wpIn (Fw none) _ _ _ _ _ _
 simp only [xP3,run] at hrun
 split at hrun
 ·cases hrun
 rename_i s1 h1
 split at hrun
 case h_2 => cases hrun
 rename_i s2 h2
 split at hrun
 case isFalse => cases hrun
 rename_i hls
 simp only [Option.some.injEq,Prod.mk.injEq,true_and] at hrun
 subst hrun
 refine xNB hR (by kernel_rfl) (by kernel_rfl) (by kernel_rfl) hls h1 h2 hS1 ?_ ?_
 ·refine .cons (hb hp) (.cons (hb hq) (.cons (hb hr) (.cons (.any _) (.cons (.ptr (xAE _ _ _)) ?_))))
  exact ⟨rfl,fun i c v hc _ => by
   match i,hc with
   | 0,h | 1,h | 2,h | 3,h | 4,h | 5,h | 6,h | 7,h | 8,h | 9,h | 10,h => cases h; exact .any _⟩
 intro im' io' a' w' t1 t2 t3 t4
 cases c₀
 refine ⟨t4,_,rfl,_,?_,rfl,rfl,im',io',hst.trans t1,t2⟩
 simp [results,Tryz.results52]
end Go.Proofs
/- Parse,by what the interpreter says of its parts. -/
set_option linter.unusedVariables false
set_option linter.unusedSimpArgs false
namespace Go.Proofs
open Go.RowKit Go.Abs
def pA1 : List AOper := [⟨some 2,.box (.c (.sl true 0 [])),none⟩,
   ⟨some 3,.box (.c (.int Go.IntKind.i64 0)),none⟩,
   ⟨some 4,.box (.c (.int Go.IntKind.i64 0)),none⟩]
def pA2 : List AOper := [⟨some 7,.mov (.t 0),none⟩,
    ⟨some 8,.slen (.t 7),none⟩,
    ⟨some 9,.bin .gtr (.t 8) (.c (.int Go.IntKind.i64 4096)),none⟩]
def pA3 : List AOper := [⟨none,.store 1 (.t 2) (.c (.sl true 0 [])),none⟩,
     ⟨none,.store 1 (.t 3) (.c (.int Go.IntKind.i64 0)),none⟩,
     ⟨none,.store 1 (.t 4) (.c (.int Go.IntKind.i64 4)),none⟩]
def pR1 : ACode := .region [⟨some 11,.mov (.t 0),none⟩,
    ⟨some 12,.build [.str ⟨#[]⟩,.int Go.IntKind.i64 0,.sl true 0 [],.int Go.IntKind.i64 0] [(0,1,(.t 11))],none⟩,
    ⟨some 13,.box (.t 12),none⟩,
    ⟨some 5,.mov (.t 13),none⟩]
def pR2 : ACode := .region [⟨some 14,.mov (.t 5),none⟩,
     ⟨some 15,.icall (.c (.func 53 [])) [(.t 14)],none⟩,
     ⟨some 6,.mov (.t 15),none⟩]
def pR3 : ACode := .seq (.block 0 (.seq (.region [⟨some 17,.mov (.t 5),none⟩,
      ⟨some 18,.nilchk (.t 17),none⟩,
      ⟨some 19,.faddr 1 (.t 18),none⟩,
      ⟨some 20,.load false 1 (.t 19),none⟩,
      ⟨some 21,.mov (.t 0),none⟩,
      ⟨some 22,.slen (.t 21),none⟩,
      ⟨some 23,.bin .lss (.t 20) (.t 22),none⟩,
      ⟨some 16,.mov (.t 23),none⟩])
     (.cond (.t 16)
     (.seq (.drawl [(26,(1,(2,1)))] 4 [⟨some 24,.mov (.t 5),none⟩,
       ⟨some 25,.nilchk (.t 24),none⟩,
       ⟨some 26,.faddr 1 (.t 25),none⟩,
       ⟨some 27,.load false 1 (.t 26),none⟩,
       ⟨none,.store 1 (.t 2) (.c (.sl true 0 [])),none⟩,
       ⟨none,.store 1 (.t 3) (.t 27),none⟩,
       ⟨none,.store 1 (.t 4) (.c (.int Go.IntKind.i64 5)),none⟩])
      (.ret))
     (.seq (.region [⟨some 29,.mov (.t 5),none⟩,
       ⟨some 30,.nilchk (.t 29),none⟩,
       ⟨some 31,.faddr 2 (.t 30),none⟩,
       ⟨some 32,.load false 1 (.t 31),none⟩,
       ⟨some 33,.mov (.t 6),none⟩,
       ⟨some 34,.call 29 [(.t 32),(.t 33),(.c (.int Go.IntKind.u64 0))],none⟩,
       ⟨some 28,.mov (.t 34),none⟩])
      (.cond (.t 28)
      (.seq (.region [⟨none,.store 1 (.t 2) (.c (.sl true 0 [])),none⟩,
        ⟨none,.store 1 (.t 3) (.c (.int Go.IntKind.i64 0)),none⟩,
        ⟨none,.store 1 (.t 4) (.c (.int Go.IntKind.i64 11)),none⟩])
       (.ret))
      (.skip))))))
    (.seq (.region [⟨some 35,.mov (.t 5),none⟩,
      ⟨some 36,.nilchk (.t 35),none⟩,
      ⟨some 37,.faddr 2 (.t 36),none⟩,
      ⟨some 38,.load false 1 (.t 37),none⟩,
      ⟨none,.store 1 (.t 2) (.t 38),none⟩,
      ⟨none,.store 1 (.t 3) (.c (.int Go.IntKind.i64 0)),none⟩,
      ⟨none,.store 1 (.t 4) (.c (.int Go.IntKind.i64 0)),none⟩])
    (.ret))
def pR : ACode := .seq pR1 (.seq pR2 pR3)
def tR : TCode := .seq pR1 .no (.seq pR2 (.call [⟨some 14,.mov (.t 5),none⟩] 53 [(.t 14)]) .no)
def xX2 : List ARes := [.cell 2 false 1,.cell 3 false 1,.cell 4 false 1]
def xFk (R : Rec) (C : Nat → List AV → Heap → Option (Nat × AV × Heap)) (s2 : St) : Option (AV × Heap) :=
 match run R pR ⟨s2.F.set 10 .any,s2.H⟩ with
 | some (.ret,s3) => (xA1 xX2 s3).map fun v => (v,s3.H)
 | _ => match xCl R C 10000 tR ⟨s2.F.set 10 .any,s2.H⟩ with
  | some (T,.agg [.int .i64 a,.int .i64 e],s3) => if T = 102 then (match run R xP3 ⟨xUj (s2.F.getD 2 .any) (s2.F.getD 3 .any) (s2.F.getD 4 .any) s3.H,s3.H ++ [.cells false false [.int .i64 a,.int .i64 e]]⟩ with
    | some (.normal,s4) => (xA1 xX2 ⟨s3.F,s4.H⟩).map fun v => (v,s4.H)
    | _ => none) else none
  | _ => none
def xFl (R : Rec) (C : Nat → List AV → Heap → Option (Nat × AV × Heap)) (args : List AV) (H : Heap) : Option (AV × Heap) :=
 match xAy R pA1 ⟨args ++ List.replicate (39 - args.length) (.tup []),H⟩ with
 | none => none
 | some s1 => match xAy R pA2 s1 with
  | none => none
  | some s2 => match s2.F.getD 9 .any with
   | .bool true => (match xAy R pA3 s2 with
    | some s3 => (xA1 xX2 s3).map fun v => (v,s3.H)
    | none => none)
   | .bool false => if 10 < s2.F.length then xFk R C s2 else none
   | _ => none
section
variable {P : Program} {a : Act} {im im' : Im} {io io' : Io} {H H' : Heap} {w w' : World} {F : List AV} {R : Rec} {v : AV}
theorem xGw {chk : Code → ACode → Bool} {fn : Func} {tmps : Array Value} {n B : Nat} {Q : Ending → World → Prop} {u : FrameMode} {rest : List Deferred} (hu : u ≠ .run)
  (hrest : ∀ w',Step im io w im' io' w' → Sim chk im' io' H w' → LeavesInM (Fw none) n P fn tmps Q rest u w') :
  ∀ (Ds : List Nat) (w' : World),Step im io w im' io' w' → Sim chk im' io' H w' → Ds.Nodup → (∀ D ∈ Ds,w.heap.size ≤ D ∧ w'.heap[D]? = some (.deferred (some [])) ∧ ¬ Own io' D ∧ im' D = none) →
   LeavesInM (Fw none) n P fn tmps Q (Ds.map xEf ++ rest) u w' := by
 intro Ds
 induction Ds with
 | nil => intro w' hst hs _ _; exact hrest w' hst hs
 | cons D Ds ih =>
  intro w' hst hs hnd hm
  obtain ⟨g1,g2,g3,g4⟩ := hm D (List.mem_cons_self ..)
  refine ⟨hu,.inl ⟨D,_,rfl,run_takeDeferred g2,?_⟩⟩
  refine ih _ (hst.putMark g1 _) (hs.putFree _ (fun j bj sj _ _ hj => g3 ⟨j,sj,hj⟩) g4) (List.nodup_cons.1 hnd).2 (fun D' hD' => ?_)
  obtain ⟨k1,k2,k3,k4⟩ := hm D' (List.mem_cons_of_mem _ hD')
  have hne : D' ≠ D := fun e => (List.nodup_cons.1 hnd).1 (e ▸ hD')
  exact ⟨k1,by rw [World.putObj_heap_other hne]; exact k2,k3,k4⟩
end
theorem xOr : xC2 Tryz.prog Tryz.f22.results.toList xX2 = true := by kernel_rfl
set_option maxRecDepth 100000 in
theorem Ev.parse {R : Rec} (hR : RecOk (xAl Tryz.prog) Tryz.prog R) (hL : LoopOk Tryz.prog R) {C : Nat → List AV → Heap → Option (Nat × AV × Heap)} (hC : xGI Tryz.prog C)
  {args : List AV} {H H' : Heap} {v : AV} (h : xFl R C args H = some (v,H')) (n : Nat) (im : Im) (io : Io) (w : World) (vs : List Value) (hs : Sim (xAl Tryz.prog) im io H w) (hr : Reps im io args vs) :
  CallsIn (Fw none) n Tryz.prog 22 vs.toArray w (xLr (xAl Tryz.prog) im io w v H') := by
 refine callsIn_of_wp_marks Tryz.func22 rfl trivial ?_
 have hF : FRep im io (args ++ List.replicate (39 - args.length) (.tup [])) { tmps := vs.toArray ++ Array.replicate (Tryz.f22.ntmps - vs.toArray.size) undef,defers := [] } := by
  show Reps _ _ _ _
  have e : (vs.toArray ++ Array.replicate (Tryz.f22.ntmps - vs.toArray.size) undef).toList = vs ++ List.replicate (39 - args.length) undef := by
   simp [hr.1,Tryz.ntmps22]
  rw [e]
  exact hr.append (xC4 _)
 unfold xFl at h
 split at h
 ·cases h
 rename_i s1 h1
 split at h
 ·cases h
 rename_i s2 h2
 refine wpIn_seq (xEZ (aops := pA1) hR (by kernel_rfl) h1 hs hF ?_)
 intro im1 io1 a1 w1 t1 t2 t3 t4
 refine wpIn_seq (wpIn_seq (xEZ (aops := pA2) hR (by kernel_rfl) h2 t2 t3 ?_))
 intro im2 io2 a2 w2 u1 u2 u3 u4
 have r9 := u3.getD 9
 have st2 := t1.trans u1
 have hd2 : a2.defers = [] := u4.trans t4
 split at h
 ·-- too long
  rename_i h9
  rw [h9] at r9
  generalize hx : a2.tmps.getD 9 undef = x9 at r9
  cases r9
  refine wpIn_cond (t := true) hx ?_
  simp only [if_true]
  split at h
  case h_2 => cases h
  rename_i s3 h3
  simp only [Option.map_eq_some_iff,Prod.mk.injEq] at h
  obtain ⟨v',h4,rfl,rfl⟩ := h
  refine wpIn_seq (xEZ (aops := pA3) hR (by kernel_rfl) h3 u2 u3 ?_)
  intro im3 io3 a23 w3 q1 q2 q3 q4
  refine wpIn_ret ?_
  show LeavesInM _ _ _ _ _ _ _ _ _
  rw [show a23.defers = [] from q4.trans hd2]
  obtain ⟨z,g1,g2⟩ := xD1 xOr q2 q3 h4
  exact ⟨z,g1,z,im3,io3,rfl,st2.trans q1,q2,g2⟩
 ·rename_i h9
  rw [h9] at r9
  generalize hx : a2.tmps.getD 9 undef = x9 at r9
  cases r9
  refine wpIn_cond (t := false) hx ?_
  simp only [Bool.false_eq_true,if_false]
  refine wpIn_skip ?_
  show Code.wpIn _ _ _ _ _ _ _
  split at h
  case isFalse => cases h
  rename_i hlen
  have h10 : 10 < a2.tmps.size := by
   have hl : a2.tmps.toList.length = s2.F.length := u3.1
   rw [Array.length_toList] at hl
   rw [hl]; exact hlen
  refine wpIn_seq (wpIn_region ?_)
  have hmf : ∀ (fn : Fn) (first cap : Array Value) (w : World),(Instr.makeFunc fn first cap).run Tryz.prog w = .ok (.func fn first cap) w := fun _ _ _ _ => rfl
  simp [wpOpsIn,List.range,List.range.loop,Oper.wpIn,Oper.semAt_none,go_sem,hmf,xVD,Oper.uponIn,h10,Result.andThen,hd2]
  generalize hp0 : a2.tmps[2]?.getD undef = p
  generalize hq0 : a2.tmps[3]?.getD undef = q
  generalize hr0 : a2.tmps[4]?.getD undef = r
  have rp : Rep im2 io2 (s2.F.getD 2 .any) p := by rw [← hp0]; simpa [Array.getD_eq_getD_getElem?] using u3.getD 2
  have rq : Rep im2 io2 (s2.F.getD 3 .any) q := by rw [← hq0]; simpa [Array.getD_eq_getD_getElem?] using u3.getD 3
  have rr : Rep im2 io2 (s2.F.getD 4 .any) r := by rw [← hr0]; simpa [Array.getD_eq_getD_getElem?] using u3.getD 4
  generalize hd0 : ({ target := Target.fn (.func 52) #[p,q,r],args := #[] } : Deferred) = d
  have hF3 : FRep im2 io2 (s2.F.set 10 .any) { tmps := a2.tmps.setIfInBounds 10 (Value.func (.func 52) #[] #[p,q,r]),defers := [d] } := by
   show Reps _ _ _ _
   rw [Array.toList_setIfInBounds]
   exact Reps.set u3 10 (.any _)
  have hm3 : MarksOk (w2.heap.size,[d]) im2 io2 w2 [d] := ⟨[],rfl,List.nodup_nil,fun D hD => by cases hD⟩
  have henter : ∀ (vs : Array Value) w,(callFunc 52 vs).run Tryz.prog w = .ok (.enter 52 vs) w := fun vs w => by simp [callFunc,Tryz.func52,Tryz.f52,Result.andThen]
  have hinv : ∀ w',(invoke d.target d.args).run Tryz.prog w' = .ok (.enter 52 #[p,q,r]) w' := by
   intro w'
   rw [← hd0]
   simp [invoke]
  unfold xFk at h
  split at h
  ·-- no panic
   rename_i s3 h3
   simp only [Option.map_eq_some_iff,Prod.mk.injEq] at h
   obtain ⟨v',h5,rfl,rfl⟩ := h
   refine wpIn_mono (xBP hR hL (by kernel_rfl) _ pR _ _ _ none n (w2.heap.size,[d]) (by kernel_rfl) (.inl rfl) h3 im2 io2 _ w2 u2 hF3 hm3 (Nat.le_refl _)) ?_
   rintro e' a23 w3 ⟨rfl,im3,io3,q3,q4,q5,Ds,d1,d2,d3⟩
   show LeavesInM _ _ _ _ _ _ _ _ _
   rw [d1]
   refine xGw (im := im2) (io := io2) (w := w2) (im' := im3) (io' := io3) (H := s3.H) (B := 0) (by simp) ?_ Ds w3 q3 q4 d2 d3
   intro w4 z1 z2
   refine ⟨by simp,.inr ⟨by simp [Fw],.func 52,#[p,q,r],52,#[p,q,r],by rw [← hd0],hinv w4,fun _ _ => trivial,?_⟩⟩
   refine CallsDIn.mono (Ev.idle _ p q r w4) ?_
   rintro e5 u5 w5 ⟨rfl,rfl,rfl⟩
   show LeavesInM _ _ _ _ _ _ _ _ _
   obtain ⟨z,g1,g2⟩ := xD1 xOr z2 q5 h5
   exact ⟨z,g1,z,im3,io3,rfl,st2.trans z1,z2,g2⟩
  ·-- a panic
   split at h
   case h_2 => cases h
   rename_i T a e s3 h3
   split at h
   case isFalse => cases h
   rename_i hT
   subst hT
   split at h
   case h_2 => cases h
   rename_i s4 h4
   simp only [Option.map_eq_some_iff,Prod.mk.injEq] at h
   obtain ⟨v',h5,rfl,rfl⟩ := h
   refine wpIn_mono (xJ1 hR hL (by kernel_rfl) hC 10000 _ tR _ _ _ _ n (w2.heap.size,[d]) (by kernel_rfl) h3 im2 io2 _ w2 u2 hF3 hm3 (Nat.le_refl _)) ?_
   rintro e' a23 w3 ⟨x,im3,io3,rfl,q1,q2,q3,q4,q5,Ds,d1,d2,d3⟩
   show LeavesInM _ _ _ _ _ _ _ _ _
   rw [d1]
   refine xGw (im := im2) (io := io2) (w := w2) (im' := im3) (io' := io3) (H := s3.H) (B := 0) (by simp) ?_ Ds w3 q3 q4 d2 d3
   intro w4 z1 z2
   refine ⟨by simp,.inr ⟨by simp [Fw],.func 52,#[p,q,r],52,#[p,q,r],by rw [← hd0],hinv w4,fun _ _ => trivial,?_⟩⟩
   have hx : x = .agg #[.int .i64 a,.int .i64 e] := by
    cases q2 with
    | agg hl hcc hk =>
     rename_i ws
     match ws,hl with
     | [y1,y2],_ =>
      have k1 := hcc 0 _ y1 rfl rfl
      have k2 := hcc 1 _ y2 rfl rfl
      cases k1; cases k2; rfl
   subst hx
   refine CallsDIn.mono (Ev.caught hR hL _ p q r a e im3 io3 w4 s3.H _ _ _ s4 z2 (rp.mono z1.im_le z1.io_le) (rq.mono z1.im_le z1.io_le) (rr.mono z1.im_le z1.io_le) h4) ?_
   rintro e5 u5 w5 ⟨rfl,rfl,im5,io5,y1,y2⟩
   show LeavesInM _ _ _ _ _ _ _ _ _
   have hset : settle (.panicking [{ v := .iface 102 (.agg #[.int .i64 a,.int .i64 e]),recovered := true }]) = .returning := rfl
   rw [hset]
   obtain ⟨z,g1,g2⟩ := xD1 (s := ⟨s3.F,s4.H⟩) xOr y2 (q5.mono y1.im_le y1.io_le) h5
   exact ⟨z,g1,z,im5,io5,rfl,st2.trans (z1.trans y1),y2,g2⟩
 ·cases h
end Go.Proofs
/- strings.Builder and strings.Join at this program: the shelf's contracts (as its plain mode lays them),and WriteString and Join walked. -/
set_option linter.unusedVariables false
set_option linter.unusedSimpArgs false
namespace Go.Proofs
open Go.Shelf Go.RowKit
def Tryz.lays165_ren : Go.Shelf.Ren := ⟨fun | 165 => 63 | 240 => 91 | 241 => 92 | 276 => 114 | 277 => 115 | n => n,fun | 70 => 127 | 3 => 3 | 0 => 0 | 4 => 4 | 9 => 9 | 20 => 20 | 72 => 129 | 37 => 54 | 164 => 164 | 5 => 5 | n => n,fun | n => n⟩
theorem Tryz.lays165 : Go.Proofs.Lays.n165 Tryz.prog Tryz.lays165_ren := {
 mixed := by kernel_rfl
 f165 := Tryz.func63.trans (congrArg some (by kernel_rfl))
 f240 := Tryz.func91.trans (congrArg some (by kernel_rfl))
 f241 := Tryz.func92.trans (congrArg some (by kernel_rfl))
 f276 := Tryz.func114.trans (congrArg some (by kernel_rfl))
 f277 := Tryz.func115.trans (congrArg some (by kernel_rfl))
 t0 := Tryz.underlying0
 a0 := Tryz.isAgg0
 z0 := Tryz.sizeOf0
 v0 := Tryz.zeroValue0
 t3 := Tryz.underlying3
 a3 := Tryz.isAgg3
 z3 := Tryz.sizeOf3
 v3 := Tryz.zeroValue3
 t4 := Tryz.underlying4
 a4 := Tryz.isAgg4
 z4 := Tryz.sizeOf4
 v4 := Tryz.zeroValue4
 t9 := Tryz.underlying9
 a9 := Tryz.isAgg9
 z9 := Tryz.sizeOf9
 v9 := Tryz.zeroValue9
 t20 := Tryz.underlying20
 a20 := Tryz.isAgg20
 z20 := Tryz.sizeOf20
 v20 := Tryz.zeroValue20
 t37 := Tryz.underlying54
 a37 := Tryz.isAgg54
 z37 := Tryz.sizeOf54
 v37 := Tryz.zeroValue54
 t70 := Tryz.underlying127
 a70 := Tryz.isAgg127
 z70 := Tryz.sizeOf127
 v70 := Tryz.zeroValue127
 t72 := Tryz.underlying129
 a72 := Tryz.isAgg129
 z72 := Tryz.sizeOf129
 v72 := Tryz.zeroValue129
 t164 := Tryz.underlying164
 a164 := Tryz.isAgg164
 z164 := Tryz.sizeOf164
 v164 := Tryz.zeroValue164 }
def Tryz.lays169_ren : Go.Shelf.Ren := ⟨fun | 169 => 65 | n => n,fun | 70 => 127 | 9 => 9 | 0 => 0 | 72 => 129 | 37 => 54 | 127 => 151 | 3 => 3 | 5 => 5 | n => n,fun | n => n⟩
theorem Tryz.lays169 : Go.Proofs.Lays.n169 Tryz.prog Tryz.lays169_ren := {
 mixed := by kernel_rfl
 f169 := Tryz.func65.trans (congrArg some (by kernel_rfl))
 t0 := Tryz.underlying0
 a0 := Tryz.isAgg0
 z0 := Tryz.sizeOf0
 v0 := Tryz.zeroValue0
 t3 := Tryz.underlying3
 a3 := Tryz.isAgg3
 z3 := Tryz.sizeOf3
 v3 := Tryz.zeroValue3
 t9 := Tryz.underlying9
 a9 := Tryz.isAgg9
 z9 := Tryz.sizeOf9
 v9 := Tryz.zeroValue9
 t37 := Tryz.underlying54
 a37 := Tryz.isAgg54
 z37 := Tryz.sizeOf54
 v37 := Tryz.zeroValue54
 t70 := Tryz.underlying127
 a70 := Tryz.isAgg127
 z70 := Tryz.sizeOf127
 v70 := Tryz.zeroValue127
 t72 := Tryz.underlying129
 a72 := Tryz.isAgg129
 z72 := Tryz.sizeOf129
 v72 := Tryz.zeroValue129
 t127 := Tryz.underlying151
 a127 := Tryz.isAgg151
 z127 := Tryz.sizeOf151
 v127 := Tryz.zeroValue151 }
theorem Tryz.Builder_Extra_165 : Builder.Extra Tryz.prog Tryz.lays165_ren := {
 sizeBuilder := by kernel_rfl
 liesBuilder := by kernel_rfl
 t5 := Tryz.underlying5
 a5 := Tryz.isAgg5
 z5 := Tryz.sizeOf5
 v5 := Tryz.zeroValue5
 infoByte := by kernel_rfl
 cellsByte := by kernel_rfl
 sizeByte := by kernel_rfl
 neB5 := by decide }
theorem Tryz.Builder_Extra_169 : Builder.Extra Tryz.prog Tryz.lays169_ren := {
 sizeBuilder := by kernel_rfl
 liesBuilder := by kernel_rfl
 t5 := Tryz.underlying5
 a5 := Tryz.isAgg5
 z5 := Tryz.sizeOf5
 v5 := Tryz.zeroValue5
 infoByte := by kernel_rfl
 cellsByte := by kernel_rfl
 sizeByte := by kernel_rfl
 neB5 := by decide }
theorem Tx.string_any (B b : Nat) (l : List UInt8) (w : World) (h : Lib.IsBuilder 129 5 B b (Lib.byteCells l) w) (hBw : B ≤ w.heap.size) :
  Calls Tryz.prog 65 #[.pointer (some ⟨b,0,none⟩)] w fun e w' => e = .returned (.string ⟨l.toArray⟩) ∧ Below B w w' := Any.Builder_String_any Tryz.lays169 Tryz.Builder_Extra_169 B b l w h hBw
theorem Tx.grow_fresh (B b n : Nat) (w : World) (hB : B ≤ b) (hbk : w.heap[b]? = some (.cells #[.pointer none,.slice none 0 0] 129 (0,0))) (hBw : B ≤ w.heap.size) (hn : n ≤ 281474976710656) :
  Calls Tryz.prog 63 #[.pointer (some ⟨b,0,none⟩),.int .i64 n] w fun e w' => e = .returned (.tuple #[]) ∧ (Lib.BuilderAt 129 5 B b (.pointer (some ⟨b,0,none⟩)) [] w' ∧ Below B w w') := Any.Builder_Grow_fresh Tryz.lays165 Tryz.Builder_Extra_165 B b n w hB hbk hBw hn
set_option maxRecDepth 100000 in
theorem Tx.copyCheck_used (b : Nat) (w : World) (h0 : w.cell? ⟨b,0,none⟩ = some (.pointer (some ⟨b,0,none⟩))) :
  Calls Tryz.prog 91 #[.pointer (some ⟨b,0,none⟩)] w fun e w' => e = .returned (.tuple #[]) ∧ w' = w := by
 obtain ⟨j,hj,_⟩ := Option.map_eq_some_iff.1 Tryz.Builder_Extra_169.sizeBuilder
 go_enter Tryz.func91,Tryz.ntmps91
 go_wp2
 rw [Lib.run_neq_ptr_same w _ Tryz.underlying127 hj]
 go_wp2
 go_end0
 exact ⟨rfl,rfl⟩
set_option maxRecDepth 100000 in
theorem Tx.writeString (B b : Nat) (bs : List Value) (s : ByteArray) (w : World) (h : Lib.BuilderAt 129 5 B b (.pointer (some ⟨b,0,none⟩)) bs w) (hlen : bs.length + s.size ≤ 140737488355328) (hBw : B ≤ w.heap.size) :
  Calls Tryz.prog 64 #[.pointer (some ⟨b,0,none⟩),.string s] w fun e w' => e = .returned (.tuple #[.int .i64 s.size,.nilIface]) ∧ (Lib.BuilderAt 129 5 B b (.pointer (some ⟨b,0,none⟩)) (bs ++ Lib.strCells s) w' ∧ Below B w w') := by
 obtain ⟨i0,hi,hz0,hz1,hz2⟩ := info_parts Tryz.Builder_Extra_169.infoByte
 go_enter Tryz.func64,Tryz.ntmps64
 have hcc := h.cell0
 go_wp2_with (go_at_call 91; refine (Tx.copyCheck_used b _ hcc).mono ?_)
 rintro e w1 ⟨rfl,rfl⟩
 obtain ⟨hB,v,hbk,hown,hne⟩ := h
 have c0 : w1.cell? ⟨b,0,none⟩ = some (.pointer (some ⟨b,0,none⟩)) := by rw [Lib.cell_of_heap hbk]; rfl
 have c1 : w1.cell? ⟨b,1,none⟩ = some v := by rw [Lib.cell_of_heap hbk]; rfl
 go_wp2_with (at_builtin; refine Lib.wpList_append_own_string _ rfl _ _ 54 9 rfl B 5 i0 Tryz.underlying54 Tryz.underlying9 hi hz0 hz1 hz2 _ _ _ rfl hown s rfl ?c3 ?c4 ?c5 ?_)
 case c3 => unfold maxLen; omega
 case c4 => omega
 case c5 => omega
 intro v' w2 hown' hgrow _
 have hlt : b < w1.heap.size := by
  rcases Nat.lt_or_ge b w1.heap.size with h' | h'
  ·exact h'
  ·simp [Array.getElem?_eq_none h'] at hbk
 have hb2 : w2.heap[b]? = some (.cells #[.pointer (some ⟨b,0,none⟩),v] 129 (0,0)) := by
  rw [hgrow.block b hlt (fun e => hne e.symm)]
  exact hbk
 have d0 : w2.cell? ⟨b,0,none⟩ = some (.pointer (some ⟨b,0,none⟩)) := by rw [Lib.cell_of_heap hb2]; rfl
 have d1 : w2.cell? ⟨b,1,none⟩ = some v := by rw [Lib.cell_of_heap hb2]; rfl
 have f1 : w2.frozen? ⟨b,1,none⟩ = false := Lib.frozen_of_heap hb2 1
 obtain ⟨ao,n',cap,rfl⟩ : ∃ ao n' cap,v' = .slice ao n' cap := by
  rcases hown'.2 with ⟨hv,_⟩ | ⟨g,cap,cur,hv,_⟩
  ·exact ⟨_,_,_,hv⟩
  ·exact ⟨_,_,_,hv⟩
 go_wp2
 go_ret2
 refine ⟨rfl,?_,?_⟩
 ·exact Lib.BuilderAt.put (T := 129) (e := 5) hB hb2 (bs' := bs ++ Lib.strCells s) (by simpa [Lib.strCells_length] using hown') (by decide)
 ·exact ((Below.refl B _).grown hgrow hBw (fun k hk => (hown.lt k hk).1)).setCell (p := ⟨b,1,none⟩) hB _
end Go.Proofs
/- strings.Join at this program. -/
set_option linter.unusedVariables false
set_option linter.unusedSimpArgs false
namespace Go.Proofs
open Go.Shelf Go.RowKit
theorem Tx.hid {p : Prop} (h : p) : Hid p := h
set_option maxRecDepth 1000000 in
theorem Tx.join_none (a : Option Addr) (c : Nat) (sep : ByteArray) (w : World) :
  Calls Tryz.prog 34 #[.slice a 0 c,.string sep] w fun e w' => e = .returned (.string ⟨#[]⟩) ∧ w' = w := by
 go_enter Tryz.func34,Tryz.ntmps34
 go_wp2
 go_ret
 exact ⟨rfl,rfl⟩
set_option maxRecDepth 1000000 in
theorem Tx.join_one (bk o c : Nat) (x sep : ByteArray) (w : World) (hc : w.cell? ⟨bk,o,none⟩ = some (.string x)) :
  Calls Tryz.prog 34 #[.slice (some ⟨bk,o,none⟩) 1 c,.string sep] w fun e w' => e = .returned (.string x) ∧ w' = w := by
 go_enter Tryz.func34,Tryz.ntmps34
 go_wp2
 go_ret
 exact ⟨rfl,rfl⟩
set_option maxRecDepth 1000000 in
theorem Tx.join_many (bk o c : Nat) (xs : List ByteArray) (sep : ByteArray) (w : World)
  (hcells : ∀ (j : Nat) x,xs[j]? = some x → w.cell? ⟨bk,o + j,none⟩ = some (.string x))
  (hbk : bk < w.heap.size) (h2 : 2 ≤ xs.length) (hN : xs.length ≤ 1000) (hcap : xs.length ≤ c) (hs1 : 1 ≤ sep.size) (hs : sep.size ≤ 1000)
  (hlen : (Lib.join (xs.map (·.data.toList)) sep.data.toList).length ≤ 1000000000) :
  Calls Tryz.prog 34 #[.slice (some ⟨bk,o,none⟩) xs.length c,.string sep] w fun e w' => e = .returned (.string ⟨(Lib.join (xs.map (·.data.toList)) sep.data.toList).toArray⟩) ∧ Below w.heap.size w w' := by
 have HC := Tx.hid hcells
 clear hcells
 obtain ⟨x0,r,hxs⟩ : ∃ x0 r,xs = x0 :: r := by
  cases xs with
  | nil => simp at h2
  | cons a t => exact ⟨a,t,rfl⟩
 have hjl : sep.size * (xs.length - 1) + Lib.lens (xs.map (·.data.toList)) ≤ 1000000000 := by
  have := Lib.join_length x0.data.toList (r.map (·.data.toList)) sep.data.toList
  rw [hxs] at hlen ⊢
  simp only [List.map_cons] at hlen ⊢
  rw [this,List.length_map] at hlen
  rw [Lib.size_eq,List.length_cons,Nat.add_sub_cancel]
  exact hlen
 have hmul : sep.size * (xs.length - 1) ≤ 1000000000 := by omega
 generalize hM : sep.size * (xs.length - 1) = M at hjl hmul
 have hcast : ((xs.length : Int) - 1) = ((xs.length - 1 : Nat) : Int) := by omega
 have hlt : sep.size < 9223372036854775807 / (xs.length - 1) := by
  have : sep.size + 1 ≤ 9223372036854775807 / (xs.length - 1) := by
   rw [Nat.le_div_iff_mul_le (by omega),Nat.add_mul,hM]
   omega
  omega
 have hdv : ¬ (9223372036854775807 / ((xs.length : Int) - 1) ≤ (sep.size : Int)) := by
  have e : (9223372036854775807 : Int) / ((xs.length - 1 : Nat) : Int) = ((9223372036854775807 / (xs.length - 1) : Nat) : Int) := IntWalk.up_div (x := 9223372036854775807) rfl rfl
  rw [hcast,e]
  generalize 9223372036854775807 / (xs.length - 1) = q at hlt
  omega
 have hprod : wrap64 ((sep.size : Int) * ((xs.length : Int) - 1)) = (M : Int) := by
  have e : (sep.size : Int) * ((xs.length - 1 : Nat) : Int) = ((sep.size * (xs.length - 1) : Nat) : Int) := IntWalk.up_mul rfl rfl
  rw [hcast,e,hM]
  exact IntWalk.wrap64_in _ ⟨by omega,by omega⟩
 clear hlt hcast
 have hne0 : ((xs.length : Int) == 0) = false := beq_eq_false_iff_ne.2 (by omega)
 have hne1 : ((xs.length : Int) == 1) = false := beq_eq_false_iff_ne.2 (by omega)
 have Hxs := Tx.hid hxs
 have Hlen := Tx.hid hlen
 clear hxs hlen
 go_enter Tryz.func34,Tryz.ntmps34
 go_wp2_with fail
 all_goals (
  go_loop [5,41] (fun n i => ∃ k : Nat,k ≤ xs.length ∧ i = .int .i64 k ∧ n = .int .i64 ((M + Lib.lens ((xs.map (·.data.toList)).take k) : Nat) : Int)) (fun _ i => xs.length - (intOf i).toNat)
  case atStart => exact ⟨0,Nat.zero_le _,rfl,by simp [Lib.lens]⟩
  case round =>
   obtain ⟨k,hk,rfl,rfl⟩ := hrel
   by_cases hkn : k < xs.length
   ·obtain ⟨x,hx⟩ : ∃ x,xs[k]? = some x := ⟨xs[k],List.getElem?_eq_getElem hkn⟩
    have hc := HC.out k x hx
    have hstep := Lib.lens_take_succ (xs.map (·.data.toList)) k x.data.toList (by simp [hx])
    have hbound : Lib.lens ((xs.map (·.data.toList)).take (k + 1)) ≤ Lib.lens (xs.map (·.data.toList)) := Lib.lens_take_le _ _
    rw [← Lib.size_eq] at hstep
    generalize hA1 : Lib.lens ((xs.map (·.data.toList)).take (k + 1)) = A1 at hstep hbound
    generalize Lib.lens ((xs.map (·.data.toList)).take k) = A0 at hstep
    have HA1 := Tx.hid hA1
    clear hA1
    go_wp2
    exact ⟨⟨k + 1,by omega,by go_num,by rw [HA1.out]; refine congrArg _ ?_; omega⟩,by simp [intOf]; omega⟩
   ·have hke : k = xs.length := by omega
    subst hke
    have hall : (xs.map (·.data.toList)).take xs.length = xs.map (·.data.toList) := List.take_of_length_le (by simp)
    rw [hall]
    generalize hT : Lib.lens (xs.map (·.data.toList)) = T at hjl
    have HT := Tx.hid hT
    clear hT hall
    go_wp2_with fail
    have hMT : ((M : Int) + (T : Int)) = ((M + T : Nat) : Int) := by omega
    rw [hMT]
    refine (Tx.grow_fresh w.heap.size w.heap.size (M + T) _ (Nat.le_refl _) (heap_alloc_new w _) (by simp) (by omega)).mono ?_
    rintro e w1 ⟨rfl,h1,hb1⟩
    have hb1' : Below w.heap.size w w1 := ((Below.refl w.heap.size w).alloc (Nat.le_refl _) _).trans hb1
    have hx0 : xs[0]? = some x0 := by rw [Hxs.out]; rfl
    have hc0 : w1.cell? ⟨bk,o,none⟩ = some (.string x0) := by
     rw [hb1'.cell (p := ⟨bk,o,none⟩) hbk]
     exact HC.out 0 x0 hx0
    have H1 := Tx.hid h1
    have Hb1 := Tx.hid hb1'
    have hBw1 : w.heap.size ≤ w1.heap.size := hb1'.size
    clear h1 hb1 hb1' hMT
    have hwhole : Lib.join (xs.map (·.data.toList)) sep.data.toList = x0.data.toList ++ Lib.joinTail sep.data.toList (r.map (·.data.toList)) := by
     rw [Hxs.out,List.map_cons,Lib.join_cons]
    have hCle : ∀ k,(x0.data.toList ++ Lib.joinTail sep.data.toList ((r.map (·.data.toList)).take k)).length ≤ 1000000000 := fun k => by
     have h1 := Hlen.out
     rw [hwhole,List.length_append] at h1
     have h2 := Lib.joinTail_take_le sep.data.toList (r.map (·.data.toList)) k
     rw [List.length_append]
     omega
    have HCle := Tx.hid hCle
    have Hwhole := Tx.hid hwhole
    clear hCle hwhole
    go_wp2_with fail
    refine (Tx.writeString w.heap.size w.heap.size [] x0 w1 H1.out (by have := HCle.out 0; simp [Lib.joinTail] at this ⊢; omega) hBw1).mono ?_
    rintro e w2 ⟨rfl,h2',hb2⟩
    have hstart : ([] : List Value) ++ Lib.strCells x0 = Lib.byteCells (x0.data.toList ++ Lib.joinTail sep.data.toList ((r.map (·.data.toList)).take 0)) := by
     simp [Lib.joinTail,Lib.strCells_eq]
    rw [hstart] at h2'
    have H2 := Tx.hid h2'
    have Hb2 := Tx.hid (Hb1.out.trans hb2)
    clear h2' hb2 hstart
    have hrl : r.length = xs.length - 1 := by rw [Hxs.out]; simp
    go_wp2_with fail
    go_loopw [65] (fun i wr => ∃ k : Nat,k ≤ r.length ∧ i = .int .i64 k ∧ Hid (Lib.BuilderAt 129 5 w.heap.size w.heap.size (.pointer (some ⟨w.heap.size,0,none⟩)) (Lib.byteCells (x0.data.toList ++ Lib.joinTail sep.data.toList ((r.map (·.data.toList)).take k))) wr) ∧ Hid (Below w.heap.size w wr)) (fun i _ => r.length - (intOf i).toNat)
    case atStart => exact ⟨0,Nat.zero_le _,rfl,H2,Hb2⟩
    case round =>
     obtain ⟨k,hk',rfl,HB,HW⟩ := hrel
     by_cases hkr : k < r.length
     ·obtain ⟨y,hy⟩ : ∃ y,r[k]? = some y := ⟨r[k],List.getElem?_eq_getElem hkr⟩
      have hxy : xs[k + 1]? = some y := by rw [Hxs.out]; simpa using hy
      have hcy : wr.cell? ⟨bk,o + 1 + k,none⟩ = some (.string y) := by
       rw [HW.out.cell (p := ⟨bk,o + 1 + k,none⟩) hbk,show o + 1 + k = o + (k + 1) by omega]
       exact HC.out (k + 1) y hxy
      have hBw : w.heap.size ≤ wr.heap.size := HW.out.size
      have hnext : Lib.byteCells (x0.data.toList ++ Lib.joinTail sep.data.toList ((r.map (·.data.toList)).take k)) ++ Lib.strCells sep ++ Lib.strCells y = Lib.byteCells (x0.data.toList ++ Lib.joinTail sep.data.toList ((r.map (·.data.toList)).take (k + 1))) := by
       rw [Lib.joinTail_take_succ sep.data.toList (r.map (·.data.toList)) k y.data.toList (by simp [hy]),Lib.strCells_eq,Lib.strCells_eq,← Lib.byteCells_append,← Lib.byteCells_append,List.append_assoc,List.append_assoc,List.append_assoc]
      have hl1 := HCle.out (k + 1)
      rw [Lib.joinTail_take_succ sep.data.toList (r.map (·.data.toList)) k y.data.toList (by simp [hy])] at hl1
      simp only [List.length_append,← Lib.size_eq] at hl1
      have hl0 : (Lib.byteCells (x0.data.toList ++ Lib.joinTail sep.data.toList ((r.map (·.data.toList)).take k))).length = x0.size + (Lib.joinTail sep.data.toList ((r.map (·.data.toList)).take k)).length := by
       rw [Lib.byteCells_length,List.length_append,← Lib.size_eq]
      generalize (Lib.joinTail sep.data.toList ((r.map (·.data.toList)).take k)).length = J at hl0 hl1
      have Hn := Tx.hid hnext
      clear hnext hy hxy
      go_wp2_with fail
      refine (Tx.writeString w.heap.size w.heap.size _ sep wr HB.out (by rw [hl0]; omega) hBw).mono ?_
      rintro e w3 ⟨rfl,h3,hb3⟩
      have hBw3 : w.heap.size ≤ w3.heap.size := Nat.le_trans hBw hb3.size
      have H3 := Tx.hid h3
      have Hb3 := Tx.hid hb3
      clear h3 hb3
      go_wp2_with fail
      refine (Tx.writeString w.heap.size w.heap.size _ y w3 H3.out (by rw [List.length_append,hl0,Lib.strCells_length]; omega) hBw3).mono ?_
      rintro e w4 ⟨rfl,h4,hb4⟩
      rw [Hn.out] at h4
      have H4 := Tx.hid h4
      have Hb4 := Tx.hid ((HW.out.trans Hb3.out).trans hb4)
      clear h4 hb4
      go_wp2
      exact ⟨⟨k + 1,by omega,by go_num,H4,Hb4⟩,by simp [intOf]; omega⟩
     ·have hke : k = r.length := by omega
      subst hke
      have hfull : (r.map (·.data.toList)).take r.length = r.map (·.data.toList) := List.take_of_length_le (by simp)
      have hB' := HB.out
      rw [hfull,← Hwhole.out] at hB'
      have hBw : w.heap.size ≤ wr.heap.size := HW.out.size
      go_wp2_with fail
      refine (Tx.string_any w.heap.size w.heap.size _ wr (Or.inr hB') hBw).mono ?_
      rintro e w5 ⟨rfl,hb5⟩
      have Hb5 := Tx.hid (HW.out.trans hb5)
      clear hb5 hB'
      go_wp2
      go_ret
      exact ⟨rfl,Hb5.out⟩)
theorem Tx.join (bk o c : Nat) (xs : List ByteArray) (sep : ByteArray) (w : World)
  (hcells : ∀ (j : Nat) x,xs[j]? = some x → w.cell? ⟨bk,o + j,none⟩ = some (.string x))
  (hbk : bk < w.heap.size) (hN : xs.length ≤ 1000) (hcap : xs.length ≤ c) (hs1 : 1 ≤ sep.size) (hs : sep.size ≤ 1000)
  (hlen : (Lib.join (xs.map (·.data.toList)) sep.data.toList).length ≤ 1000000000) :
  Calls Tryz.prog 34 #[.slice (some ⟨bk,o,none⟩) xs.length c,.string sep] w fun e w' => e = .returned (.string ⟨(Lib.join (xs.map (·.data.toList)) sep.data.toList).toArray⟩) ∧ Below w.heap.size w w' := by
 match xs,hcells,hN,hcap,hlen with
 | [],_,_,_,_ => exact (Tx.join_none _ c sep w).mono fun e w' ⟨he,hw⟩ => ⟨he,hw ▸ Below.refl _ _⟩
 | [x],hcells,_,_,_ =>
  refine (Tx.join_one bk o c x sep w (hcells 0 x rfl)).mono fun e w' ⟨he,hw⟩ => ⟨?_,hw ▸ Below.refl _ _⟩
  rw [he,List.map_cons,List.map_nil,Lib.join_one,Lib.mk_data]
 | x :: y :: r,hcells,hN,hcap,hlen => exact Tx.join_many bk o c (x :: y :: r) sep w hcells hbk (by simp) hN hcap hs1 hs hlen
end Go.Proofs
