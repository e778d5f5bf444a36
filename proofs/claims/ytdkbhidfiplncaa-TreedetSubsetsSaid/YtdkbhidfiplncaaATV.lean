/- Lists of lists of numbers in blocks of the caller's own: what may be overwritten. -/
import Derived.Test.YtdkbhidfiplncaaAMD
import Derived.Test.YtdkbhidfiplncaaAbsWalk
namespace Go.Abs.Det
open Go Go.Abs
set_option linter.unusedSimpArgs false
set_option linter.unusedVariables false

def TV0 (G : xAv) (v : AV) : Prop := v = .sl true 0 [] ∨ ∃ (id : Nat) (l : List Int),v = .own false id 0 l.length 1 ∧ G[id]? = some (.cells false false (ints l)) ∧ l.length < 1099511627776
def TVS (T : xAv → AV → Prop) (G : xAv) (v : AV) : Prop := v = .sl true 0 [] ∨ ∃ (id : Nat) (cs : List AV),v = .own false id 0 cs.length 1 ∧ G[id]? = some (.cells false false cs) ∧ cs.length < 1099511627776 ∧ ∀ c ∈ cs,T G c
def TV1 : xAv → AV → Prop := TVS TV0
def TV2 : xAv → AV → Prop := TVS TV1
def TB (G : xAv) (v : AV) : Prop := v = .sl true 0 [] ∨ ∃ (id : Nat) (l : List Bool),v = .own false id 0 l.length 1 ∧ G[id]? = some (.cells false false (bools l)) ∧ l.length < 1099511627776

theorem TV0.frame {d : Nat} {G G' : xAv} {v : AV} (h : TV0 G v) (hb : ∀ b ∈ bor (d + 1) G v,G'[b]? = G[b]?) : TV0 G' v := by
  rcases h with h | ⟨id,l,rfl,hg,hs⟩
  · exact .inl h
  · exact .inr ⟨id,l,rfl,by rw [hb id (by simp [bor])]; exact hg,hs⟩
theorem TB.frame {d : Nat} {G G' : xAv} {v : AV} (h : TB G v) (hb : ∀ b ∈ bor (d + 1) G v,G'[b]? = G[b]?) : TB G' v := by
  rcases h with h | ⟨id,l,rfl,hg,hs⟩
  · exact .inl h
  · exact .inr ⟨id,l,rfl,by rw [hb id (by simp [bor])]; exact hg,hs⟩
theorem TVS.frame {T : xAv → AV → Prop} {d : Nat} {G G' : xAv} {v : AV} (hT : ∀ c,T G c → (∀ b ∈ bor d G c,G'[b]? = G[b]?) → T G' c) (h : TVS T G v) (hb : ∀ b ∈ bor (d + 1) G v,G'[b]? = G[b]?) : TVS T G' v := by
  rcases h with h | ⟨id,cs,rfl,hg,hs,hc⟩
  · exact .inl h
  · have hin : ∀ c ∈ cs,∀ b ∈ bor d G c,b ∈ bor (d + 1) G (.own false id 0 cs.length 1) := fun c hc' b hb' => by
      simp only [bor,hg,List.drop_zero,Nat.mul_one,List.take_length,List.mem_cons,List.mem_flatMap]
      exact .inr ⟨c,hc',hb'⟩
    exact .inr ⟨id,cs,rfl,by rw [hb id (by simp [bor])]; exact hg,hs,fun c hc' => hT c (hc c hc') fun b hb' => hb b (hin c hc' b hb')⟩
theorem TV1.frame {d : Nat} {G G' : xAv} {v : AV} (h : TV1 G v) (hb : ∀ b ∈ bor (d + 2) G v,G'[b]? = G[b]?) : TV1 G' v := TVS.frame (fun c hc hb => hc.frame hb) h hb
theorem TV2.frame {d : Nat} {G G' : xAv} {v : AV} (h : TV2 G v) (hb : ∀ b ∈ bor (d + 3) G v,G'[b]? = G[b]?) : TV2 G' v := TVS.frame (fun c hc hb => TV1.frame hc hb) h hb

def Tw (G G' : xAv) : Prop := G'.length = G.length ∧ ∀ b : Nat,G'[b]? = G[b]? ∨ (∃ l l' : List Int,l.length = l'.length ∧ G[b]? = some (.cells false false (ints l)) ∧ G'[b]? = some (.cells false false (ints l'))) ∨
  ∃ l l' : List Bool,l.length = l'.length ∧ G[b]? = some (.cells false false (bools l)) ∧ G'[b]? = some (.cells false false (bools l'))
theorem Tw.refl (G : xAv) : Tw G G := ⟨rfl,fun _ => .inl rfl⟩
theorem xUI {l l' : List Int} (h : ints l = ints l') : l = l' := by
  unfold ints at h
  exact (List.map_inj_right (fun a b q => by cases q; rfl)).1 h
theorem xSM {l l' : List Bool} (h : bools l = bools l') : l = l' := by
  unfold bools at h
  exact (List.map_inj_right (fun a b q => by cases q; rfl)).1 h
theorem xKo {l : List Int} {l' : List Bool} (h : ints l = bools l') : l = [] ∧ l' = [] := by
  cases l with
  | nil => cases l' with
    | nil => exact ⟨rfl,rfl⟩
    | cons => simp [ints,bools] at h
  | cons => cases l' with
    | nil => simp [ints,bools] at h
    | cons => simp [ints,bools] at h
theorem xFY {a b : List AV} (h : (some (Blk.cells false false a)) = some (Blk.cells false false b)) : a = b := by
  injection h with h; injection h
theorem Tw.ints {G G' : xAv} (h : Tw G G') {b : Nat} {l : List Int} (hb : G[b]? = some (.cells false false (ints l))) : ∃ l',l'.length = l.length ∧ G'[b]? = some (.cells false false (Go.Abs.ints l')) := by
  rcases h.2 b with q | ⟨a,a',h1,h2,h3⟩ | ⟨a,a',h1,h2,h3⟩
  · exact ⟨l,rfl,q.trans hb⟩
  · have := xUI (xFY (hb.symm.trans h2))
    subst this
    exact ⟨a',h1.symm,h3⟩
  · obtain ⟨rfl,rfl⟩ := xKo (xFY (hb.symm.trans h2))
    have : a' = [] := List.eq_nil_of_length_eq_zero (by simpa using h1.symm)
    subst this
    exact ⟨[],rfl,h3⟩
theorem Tw.bools {G G' : xAv} (h : Tw G G') {b : Nat} {l : List Bool} (hb : G[b]? = some (.cells false false (bools l))) : ∃ l',l'.length = l.length ∧ G'[b]? = some (.cells false false (Go.Abs.Det.bools l')) := by
  rcases h.2 b with q | ⟨a,a',h1,h2,h3⟩ | ⟨a,a',h1,h2,h3⟩
  · exact ⟨l,rfl,q.trans hb⟩
  · obtain ⟨rfl,rfl⟩ := xKo (xFY (h2.symm.trans hb))
    have : a' = [] := List.eq_nil_of_length_eq_zero (by simpa using h1.symm)
    subst this
    exact ⟨[],rfl,h3⟩
  · have := xSM (xFY (hb.symm.trans h2))
    subst this
    exact ⟨a',h1.symm,h3⟩
def xPi : AV → Bool
  | .int _ _ | .bool _ => false
  | _ => true
theorem Tw.odd {G G' : xAv} (h : Tw G G') {b : Nat} {fz z : Bool} {cs : List AV} (hb : G[b]? = some (.cells fz z cs)) (ho : cs.any xPi = true) : G'[b]? = some (.cells fz z cs) := by
  have noI : ∀ l : List Int,(Go.Abs.ints l).any xPi = false := fun l => by
    rw [List.any_eq_false]
    intro a ha
    obtain ⟨x,_,rfl⟩ := List.mem_map.1 ha
    simp [xPi]
  have noB : ∀ l : List Bool,(Go.Abs.Det.bools l).any xPi = false := fun l => by
    rw [List.any_eq_false]
    intro a ha
    obtain ⟨x,_,rfl⟩ := List.mem_map.1 ha
    simp [xPi]
  rcases h.2 b with q | ⟨a,a',h1,h2,h3⟩ | ⟨a,a',h1,h2,h3⟩
  · exact q.trans hb
  · rw [hb] at h2
    injection h2 with h2; injection h2 with _ _ h2
    rw [h2,noI] at ho; cases ho
  · rw [hb] at h2
    injection h2 with h2; injection h2 with _ _ h2
    rw [h2,noB] at ho; cases ho
theorem Tw.trans {G G' G2 : xAv} (h : Tw G G') (h2 : Tw G' G2) : Tw G G2 := by
  refine ⟨h2.1.trans h.1,fun b => ?_⟩
  rcases h.2 b with q | ⟨a,a',e1,e2,e3⟩ | ⟨a,a',e1,e2,e3⟩
  · rcases h2.2 b with r | ⟨c,c',f1,f2,f3⟩ | ⟨c,c',f1,f2,f3⟩
    · exact .inl (r.trans q)
    · exact .inr (.inl ⟨c,c',f1,q.symm.trans f2,f3⟩)
    · exact .inr (.inr ⟨c,c',f1,q.symm.trans f2,f3⟩)
  · obtain ⟨l',f1,f2⟩ := h2.ints e3
    exact .inr (.inl ⟨a,l',e1.trans f1.symm,e2,f2⟩)
  · obtain ⟨l',f1,f2⟩ := h2.bools e3
    exact .inr (.inr ⟨a,l',e1.trans f1.symm,e2,f2⟩)
theorem Tw.setI {G : xAv} {b : Nat} {l l' : List Int} (hb : G[b]? = some (.cells false false (Go.Abs.ints l))) (hl : l'.length = l.length) : Tw G (G.set b (.cells false false (Go.Abs.ints l'))) := by
  have hlt := (List.getElem?_eq_some_iff.1 hb).1
  refine ⟨by simp,fun c => ?_⟩
  by_cases e : c = b
  · subst e
    exact .inr (.inl ⟨l,l',hl.symm,hb,List.getElem?_set_self hlt⟩)
  · exact .inl (List.getElem?_set_ne (Ne.symm e))
theorem Tw.setB {G : xAv} {b : Nat} {l l' : List Bool} (hb : G[b]? = some (.cells false false (Go.Abs.Det.bools l))) (hl : l'.length = l.length) : Tw G (G.set b (.cells false false (Go.Abs.Det.bools l'))) := by
  have hlt := (List.getElem?_eq_some_iff.1 hb).1
  refine ⟨by simp,fun c => ?_⟩
  by_cases e : c = b
  · subst e
    exact .inr (.inr ⟨l,l',hl.symm,hb,List.getElem?_set_self hlt⟩)
  · exact .inl (List.getElem?_set_ne (Ne.symm e))

theorem TV0.tw {G G' : xAv} {v : AV} (h : TV0 G v) (ht : Tw G G') : TV0 G' v := by
  rcases h with h | ⟨id,l,rfl,hg,hs⟩
  · exact .inl h
  · obtain ⟨l',h1,h2⟩ := ht.ints hg
    exact .inr ⟨id,l',by rw [h1],h2,by rw [h1]; exact hs⟩
theorem TB.tw {G G' : xAv} {v : AV} (h : TB G v) (ht : Tw G G') : TB G' v := by
  rcases h with h | ⟨id,l,rfl,hg,hs⟩
  · exact .inl h
  · obtain ⟨l',h1,h2⟩ := ht.bools hg
    exact .inr ⟨id,l',by rw [h1],h2,by rw [h1]; exact hs⟩
theorem TV0.odd {G : xAv} {v : AV} (h : TV0 G v) : xPi v = true := by
  rcases h with rfl | ⟨id,l,rfl,_⟩ <;> rfl
theorem TVS.odd {T : xAv → AV → Prop} {G : xAv} {v : AV} (h : TVS T G v) : xPi v = true := by
  rcases h with rfl | ⟨id,l,rfl,_⟩ <;> rfl
theorem TVS.tw {T : xAv → AV → Prop} {G G' : xAv} {v : AV} (h : TVS T G v) (ht : Tw G G') (ho : ∀ c,T G c → xPi c = true) (hT : ∀ c,T G c → T G' c) : TVS T G' v := by
  rcases h with h | ⟨id,cs,rfl,hg,hs,hc⟩
  · exact .inl h
  · refine .inr ⟨id,cs,rfl,?_,hs,fun c hc' => hT c (hc c hc')⟩
    cases cs with
    | nil =>
      obtain ⟨l',h1,h2⟩ := ht.ints (l := []) hg
      have : l' = [] := List.eq_nil_of_length_eq_zero (by simpa using h1)
      subst this
      exact h2
    | cons c cs => exact ht.odd hg (by rw [List.any_cons,ho c (hc c (by simp)),Bool.true_or])
theorem TV1.tw {G G' : xAv} {v : AV} (h : TV1 G v) (ht : Tw G G') : TV1 G' v := TVS.tw h ht (fun c hc => hc.odd) (fun c hc => hc.tw ht)
theorem TV2.tw {G G' : xAv} {v : AV} (h : TV2 G v) (ht : Tw G G') : TV2 G' v := TVS.tw h ht (fun c hc => TVS.odd hc) (fun c hc => TV1.tw hc ht)

theorem xSN (L : Nat) (l : List Int) : (ints l).map (xC7 L) = ints l := by
  unfold ints; rw [List.map_map]; rfl
theorem xP7 (L : Nat) (l : List Bool) : (bools l).map (xC7 L) = bools l := by
  unfold bools; rw [List.map_map]; rfl
theorem xPj (l : List Int) : (ints l).all xH1 = true := by
  rw [List.all_eq_true]; intro a ha; obtain ⟨x,_,rfl⟩ := List.mem_map.1 ha; rfl
theorem xNf (l : List Bool) : (bools l).all xH1 = true := by
  rw [List.all_eq_true]; intro a ha; obtain ⟨x,_,rfl⟩ := List.mem_map.1 ha; rfl
theorem xH6 {H B T' : xAv} {id : Nat} {fz z : Bool} {cs : List AV} (h : B[id]? = some (.cells fz z cs)) (hr : cs.all xH1 = true) : (H ++ (B.map (xCU H.length) ++ T'))[H.length + id]? = some (.cells fz z (cs.map (xC7 H.length))) := by
  have hl := (List.getElem?_eq_some_iff.1 h).1
  rw [List.getElem?_append_right (by omega),Nat.add_sub_cancel_left,List.getElem?_append_left (by simpa using hl),List.getElem?_map,h]
  simp only [Option.map_some,xCU,hr,if_true]
theorem TV0.rel {G : xAv} {v : AV} (h : TV0 G v) : xH1 v = true := by rcases h with rfl | ⟨id,l,rfl,_⟩ <;> rfl
theorem TVS.rel {T : xAv → AV → Prop} {G : xAv} {v : AV} (h : TVS T G v) : xH1 v = true := by rcases h with rfl | ⟨id,l,rfl,_⟩ <;> rfl
theorem TB.rel {G : xAv} {v : AV} (h : TB G v) : xH1 v = true := by rcases h with rfl | ⟨id,l,rfl,_⟩ <;> rfl
theorem TV0.lift {H B T' : xAv} {v : AV} (h : TV0 B v) : TV0 (H ++ (B.map (xCU H.length) ++ T')) (xC7 H.length v) := by
  rcases h with rfl | ⟨id,l,rfl,hg,hs⟩
  · exact .inl rfl
  · exact .inr ⟨H.length + id,l,rfl,by rw [xH6 hg (xPj l),xSN],hs⟩
theorem TB.lift {H B T' : xAv} {v : AV} (h : TB B v) : TB (H ++ (B.map (xCU H.length) ++ T')) (xC7 H.length v) := by
  rcases h with rfl | ⟨id,l,rfl,hg,hs⟩
  · exact .inl rfl
  · exact .inr ⟨H.length + id,l,rfl,by rw [xH6 hg (xNf l),xP7],hs⟩
theorem TVS.lift {T : xAv → AV → Prop} {H B T' : xAv} {v : AV} (hr : ∀ c,T B c → xH1 c = true) (hT : ∀ c,T B c → T (H ++ (B.map (xCU H.length) ++ T')) (xC7 H.length c)) (h : TVS T B v) : TVS T (H ++ (B.map (xCU H.length) ++ T')) (xC7 H.length v) := by
  rcases h with rfl | ⟨id,cs,rfl,hg,hs,hc⟩
  · exact .inl rfl
  · refine .inr ⟨H.length + id,cs.map (xC7 H.length),by rw [List.length_map]; rfl,xH6 hg (List.all_eq_true.2 fun c h => hr c (hc c h)),by rw [List.length_map]; exact hs,fun c hc' => ?_⟩
    obtain ⟨a,ha,rfl⟩ := List.mem_map.1 hc'
    exact hT a (hc a ha)
theorem TV1.lift {H B T' : xAv} {v : AV} (h : TV1 B v) : TV1 (H ++ (B.map (xCU H.length) ++ T')) (xC7 H.length v) := TVS.lift (fun c hc => hc.rel) (fun c hc => hc.lift) h
theorem TV2.lift {H B T' : xAv} {v : AV} (h : TV2 B v) : TV2 (H ++ (B.map (xCU H.length) ++ T')) (xC7 H.length v) := TVS.lift (fun c hc => TVS.rel hc) (fun c hc => TV1.lift hc) h

theorem xKY {H B T' : xAv} {d id n : Nat} {z' : Bool} {cs : List AV} {t : AV} (hg : B[id]? = some (.cells false z' cs)) (hr : cs.all xH1 = true) (hm : ∀ c ∈ cs,∀ t,frz d B c = some t → frz d (H ++ (B.map (xCU H.length) ++ T')) (xC7 H.length c) = some t)
    (h : frz (d + 1) B (.own false id 0 n 1) = some t) : frz (d + 1) (H ++ (B.map (xCU H.length) ++ T')) (xC7 H.length (.own false id 0 n 1)) = some t := by
  have many : ∀ cs' ts : List AV,(∀ c ∈ cs',c ∈ cs) → cs'.mapM (frz d B) = some ts → (cs'.map (xC7 H.length)).mapM (frz d (H ++ (B.map (xCU H.length) ++ T'))) = some ts := by
    intro cs'
    induction cs' with
    | nil => intro ts _ h; exact h
    | cons c cs' ih2 =>
      intro ts hin h
      rw [List.mapM_cons] at h
      rw [List.map_cons,List.mapM_cons]
      cases h1 : frz d B c with
      | none => rw [h1] at h; simp at h
      | some t1 =>
        rw [h1] at h
        cases h2 : cs'.mapM (frz d B) with
        | none => rw [h2] at h; simp at h
        | some t2 =>
          rw [h2] at h
          rw [hm c (hin c (by simp)) t1 h1,ih2 t2 (fun x hx => hin x (by simp [hx])) h2]
          exact h
  simp only [frz,hg] at h
  split at h
  case isFalse => cases h
  rename_i hle
  simp only [Option.map_eq_some_iff] at h
  obtain ⟨ts,h1,rfl⟩ := h
  have htake : ((cs.map (xC7 H.length)).drop 0).take (n * 1) = (((cs.drop 0).take (n * 1)).map (xC7 H.length)) := by rw [← List.map_drop,← List.map_take]
  show frz (d + 1) _ (.own false (H.length + id) 0 n 1) = _
  simp only [frz,xH6 hg hr,List.length_map]
  rw [if_pos hle,htake,many _ _ (fun c hc => List.mem_of_mem_drop (List.mem_of_mem_take hc)) h1]
  rfl
theorem xN2 {d : Nat} {G G' : xAv} {t : AV} (h : frz d G (.sl true 0 []) = some t) : frz d G' (.sl true 0 []) = some t := by cases d <;> exact h
theorem xPk {d : Nat} {G G' : xAv} {L : Nat} {c t : AV} (hc : (∃ n,c = .int .i64 n) ∨ ∃ b,c = .bool b) (h : frz d G c = some t) : frz d G' (xC7 L c) = some t := by
  rcases hc with ⟨n,rfl⟩ | ⟨b,rfl⟩ <;> cases d <;> exact h
theorem TV0.frzl {H B T' : xAv} {v t : AV} {d : Nat} (h : TV0 B v) (hf : frz d B v = some t) : frz d (H ++ (B.map (xCU H.length) ++ T')) (xC7 H.length v) = some t := by
  rcases h with rfl | ⟨id,l,rfl,hg,hs⟩
  · exact xN2 hf
  · cases d with
    | zero => cases hf
    | succ d => exact xKY hg (xPj l) (fun c hc t ht => xPk (.inl (by obtain ⟨x,_,rfl⟩ := List.mem_map.1 hc; exact ⟨x,rfl⟩)) ht) hf
theorem TB.frzl {H B T' : xAv} {v t : AV} {d : Nat} (h : TB B v) (hf : frz d B v = some t) : frz d (H ++ (B.map (xCU H.length) ++ T')) (xC7 H.length v) = some t := by
  rcases h with rfl | ⟨id,l,rfl,hg,hs⟩
  · exact xN2 hf
  · cases d with
    | zero => cases hf
    | succ d => exact xKY hg (xNf l) (fun c hc t ht => xPk (.inr (by obtain ⟨x,_,rfl⟩ := List.mem_map.1 hc; exact ⟨x,rfl⟩)) ht) hf
theorem TVS.frzl {T : xAv → AV → Prop} {H B T' : xAv} (hr : ∀ c,T B c → xH1 c = true) (hT : ∀ (d : Nat) (c t : AV),T B c → frz d B c = some t → frz d (H ++ (B.map (xCU H.length) ++ T')) (xC7 H.length c) = some t) {v t : AV} {d : Nat} (h : TVS T B v) (hf : frz d B v = some t) : frz d (H ++ (B.map (xCU H.length) ++ T')) (xC7 H.length v) = some t := by
  rcases h with rfl | ⟨id,cs,rfl,hg,hs,hc⟩
  · exact xN2 hf
  · cases d with
    | zero => cases hf
    | succ d => exact xKY hg (List.all_eq_true.2 fun c h => hr c (hc c h)) (fun c hc' t ht => hT d c t (hc c hc') ht) hf
theorem TV1.frzl {H B T' : xAv} {v t : AV} {d : Nat} (h : TV1 B v) (hf : frz d B v = some t) : frz d (H ++ (B.map (xCU H.length) ++ T')) (xC7 H.length v) = some t := TVS.frzl (fun c hc => hc.rel) (fun d c t hc ht => hc.frzl ht) h hf
theorem TV2.frzl {H B T' : xAv} {v t : AV} {d : Nat} (h : TV2 B v) (hf : frz d B v = some t) : frz d (H ++ (B.map (xCU H.length) ++ T')) (xC7 H.length v) = some t := TVS.frzl (fun c hc => TVS.rel hc) (fun d c t hc ht => TV1.frzl hc ht) h hf
end Go.Abs.Det
