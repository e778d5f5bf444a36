/- Parse,in plain words. -/
namespace Go.Abs.Events
structure Nd where
 op : Nat
 name : Int
 z : Bool
 args : List Int
 x : Int
 a : Int
 b : Int
def nd0 : Nd := ⟨0,0,true,[],0,0,0⟩
def chn (op : Nat) : Nat := if op = 4 ∨ op = 7 ∨ op = 8 ∨ op = 10 then 1 else if op = 5 ∨ op = 6 ∨ op = 9 then 2 else 0
def xRS (bd : Nat) (l : List Int) : Bool := l.any fun t => decide (8 ≤ t) && !(bd.testBit (t.toNat - 8))
def bnd (n : Nd) (bd : Nat) : Nat := if n.op = 7 then bd ||| 2 ^ (n.x.toNat - 8) else bd
def opn (fs : List Nd) : Nat → Nat → Nat → Bool
 | 0,_,_ => false
 | k + 1,i,bd => xRS bd (fs.getD i nd0).args || ((decide (0 < chn (fs.getD i nd0).op) && opn fs k (fs.getD i nd0).a.toNat (bnd (fs.getD i nd0) bd)) || (decide (1 < chn (fs.getD i nd0).op) && opn fs k (fs.getD i nd0).b.toNat (bnd (fs.getD i nd0) bd)))
def flo (op : Nat) : Nat := if op = 3 then 2 else 0
def fhi (op : Nat) : Nat := if op = 2 ∨ op = 3 then 2 else 0
inductive PR (α : Type) where
 | ok (v : α) (r : List UInt8)
 | bad (r : List UInt8) (e : Nat)
def PR.bind {α β : Type} : PR α → (α → List UInt8 → PR β) → PR β
 | .ok v r,f => f v r
 | .bad r e,_ => .bad r e
def smB (c : UInt8) : Bool := decide (97 ≤ c.toNat) && decide (c.toNat ≤ 122)
def xVW (p : UInt8 → Bool) (e : Nat) : List UInt8 → PR UInt8
 | [] => .bad [] 3
 | c :: r => if p c = true then .ok c (c :: r) else .bad (c :: r) e
def xVX (c : UInt8) (r : List UInt8) : PR Unit := (xVW (fun d => d == c) 2 r).bind fun _ r => .ok () r.tail
def yDq (cs : List UInt8) (r : List UInt8) : PR Nat := (xVX 32 r).bind fun _ r => (xVW (fun c => cs.contains c) 1 r).bind fun c r => .ok (cs.idxOf c) r.tail
def opB (op : Nat) : List UInt8 :=
 if op = 1 then [116,114,117,101] else if op = 2 then [97,116] else if op = 3 then [61] else if op = 4 then [110,111,116] else if op = 5 then [97,110,100]
 else if op = 6 then [111,114] else if op = 7 then [101,120,105,115,116,115] else if op = 8 then [112,114,101,118,105,111,117,115]
 else if op = 9 then [115,105,110,99,101] else if op = 10 then [111,110,99,101] else []
def pop (w : List UInt8) (inside : Bool) : Option Nat := [1,2,3,4,5,6,7,8,9,10].find? fun op => opB op == w && (decide (op ≠ 1) == inside)
def yA0 (r : List UInt8) : List UInt8 := if r.head? = some 61 then [61] else r.takeWhile smB
def yDr (inside : Bool) (r : List UInt8) : PR Nat := (xVW (fun c => c == 61 || smB c) 2 r).bind fun _ r => match pop (yA0 r) inside with
 | some op => .ok op (r.drop (yA0 r).length)
 | none => .bad r 6
def yFi : List UInt8 := [97,98,99,100,101,102,103,104]
def yFj : List UInt8 := [120,121,122]
def yFk : List UInt8 := [48,49,50,51,52,53,54,55,120,121,122]
def yA1 : Nat → Nat → List UInt8 → PR (List Int)
 | 0,_,r => .ok [] r
 | k + 1,least,r => if least = 0 ∧ r.head? = some 41 then .ok [] r else (yDq yFk r).bind fun t r => (yA1 k (least - 1) r).bind fun ts r => .ok ((t : Int) :: ts) r
def xYH : Nat → Nat → List Nd → List UInt8 → PR (Nat × List Nd)
 | 0,_,_,r => .bad r 0
 | k + 1,many,l,r => (xVW (fun c => c == 40 || smB c) 2 r).bind fun c r => if many = 64 then .bad r 4 else
  (yDr (c == 40) (if c = 40 then r.tail else r)).bind fun op r =>
  (if op = 2 then yDq yFi r else .ok 0 r).bind fun nm r =>
  (if op = 7 then (yDq yFj r).bind fun v r => .ok (8 + v) r else .ok 0 r).bind fun x r =>
  (yA1 (fhi op) (flo op) r).bind fun as r =>
  (if 1 ≤ chn op then (xVX 32 r).bind fun _ r => xYH k (many + 1) l r else .ok (many + 1,l) r).bind fun p r =>
  (if chn op = 2 then (xVX 32 r).bind fun _ r => xYH k p.1 p.2 r else .ok p r).bind fun q r =>
  (if c = 40 then xVX 41 r else .ok () r).bind fun _ r =>
  .ok (q.1,q.2 ++ [⟨op,nm,as.isEmpty,as,x,if 1 ≤ chn op then (p.2.length : Int) - 1 else 0,if chn op = 2 then (q.2.length : Int) - 1 else 0⟩]) r
def parse (s : List UInt8) : List Nd × Nat × Nat := if 4096 < s.length then ([],0,4) else match xYH (s.length + 1) 0 [] s with
 | .bad r e => ([],s.length - r.length,e)
 | .ok (_,l) r => if r ≠ [] then ([],s.length - r.length,5) else if opn l l.length (l.length - 1) 0 = true then ([],0,11) else (l,0,0)
end Go.Abs.Events
