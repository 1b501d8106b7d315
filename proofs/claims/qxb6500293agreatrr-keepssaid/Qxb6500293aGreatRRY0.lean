/-
  THE MACHINE, PLAIN: the rest of its functions (no Go in sight).
-/
import Derived.Test.Qxb6500293aGreatRRX22
namespace Go.Proofs.Qxb6500293aGreatRR
open Ieee (double)
set_option linter.unusedVariables false

def mArith : List UInt8 := [97, 114, 105, 116, 104]
def mConcat : List UInt8 := [99, 111, 110, 99, 97, 116]
def mLong : List UInt8 := [108, 111, 110, 103]
def mCompare : List UInt8 := [99, 111, 109, 112, 97, 114, 101]
def mIndex : List UInt8 := [105, 110, 100, 101, 120]
def mKey : List UInt8 := [107, 101, 121]
def mCall : List UInt8 := [99, 97, 108, 108]
def mDepth : List UInt8 := [100, 101, 112, 116, 104]
def mLen : List UInt8 := [108, 101, 110]
def mFor : List UInt8 := [102, 111, 114]
def mNext : List UInt8 := [110, 101, 120, 116]
def mCo : List UInt8 := [99, 111]
def mYield : List UInt8 := [121, 105, 101, 108, 100]
/-- text. -/
def textP (v : V) : List UInt8 :=
  if v.T = 0 then [110, 105, 108]
  else if v.T = 1 then (if v.N = 0 then [102, 97, 108, 115, 101] else [116, 114, 117, 101])
  else if v.T = 2 then fmtP v.N
  else if v.T = 3 then v.S
  else if v.T = 6 then [98, 117, 105, 108, 116, 105, 110, 58] ++ buName v.N
  else tyName v.T ++ [58] ++ dec v.N
/-- store: a full table is the trap ErrMem; a bad key is the error 'key'. -/
def storeP (M : Mc) (h : Int) (k v : V) : Ou Unit :=
  let r := setP M.tb h k v
  if r.2 = 8 then trp { M with tb := r.1 } () 8 else if r.2 ≠ 0 then thr { M with tb := r.1 } () (str mKey) else ok { M with tb := r.1 } ()
/-- capture: how many of the open list (from its end, reversed) stay ahead of the new one. -/
def capF (ce : List Ce) (at' : Nat) : List Nat → Nat
  | [] => 0
  | c :: r => if at' < (ce[c]?.getD dX).at' then capF ce at' r else r.length + 1
def capI (M : Mc) (i at' : Nat) : Nat := capF M.ce at' (M.t i).op.reverse
def capN (M : Mc) (i at' : Nat) : Mc :=
  { M.setT i { M.t i with op := (M.t i).op.take (capI M i at') ++ [M.ce.length] ++ (M.t i).op.drop (capI M i at') } with ce := M.ce ++ [⟨(i : Int), at', nilV⟩] }
def capP (M : Mc) (i at' : Nat) : Mc × Nat :=
  let n := capI M i at'
  let c := (M.t i).op[n - 1]?.getD 0
  if 0 < n ∧ (M.x c).at' = at' then (M, c) else (capN M i at', M.ce.length)
def clos1 (M : Mc) (i base clo : Nat) (d : Nat × Nat) : Mc :=
  if d.1 = 1 then { (capP M i (base + d.2)).1 with ux := M.ux ++ [(capP M i (base + d.2)).2] } else { M with ux := M.ux ++ [upX M clo d.2] }
def closF (i base clo : Nat) : List (Nat × Nat) → Mc → Mc
  | [], M => M
  | d :: r, M => closF i base clo r (clos1 M i base clo d)
def descs (M : Mc) (x : Nat) : List (Nat × Nat) := (M.ds.drop (M.pr[x]?.getD dP).up).take (M.pr[x]?.getD dP).nup
/-- closure. -/
def closP (M : Mc) (i x : Nat) : Ou Nat :=
  if 24 ≤ M.cs.length then trp M 0 8
  else
    let M1 := closF i (M.t i).f.base (M.t i).f.clo (descs M x) M
    ok { M1 with cs := M.cs ++ [⟨x, M.ux.length, (M.pr[x]?.getD dP).nup⟩] } M.cs.length
/-- compare: whether it throws; else the answer. -/
def cmpThr (op : Nat) (a b : V) : Bool := !(decide (a.T = 2) && decide (b.T = 2)) && (!decide (op = 1) && (!decide (op = 2) && !(decide (a.T = 3) && decide (b.T = 3))))
def cmpP (op : Nat) (a b : V) : Bool :=
  if a.T = 2 ∧ b.T = 2 then cmpW (op : Int) (double.order a.N b.N)
  else if op = 1 then eqV a b
  else if op = 2 then !eqV a b
  else if op = 3 then Op.bytesLess a.S b.S
  else if op = 4 then Op.bytesLess a.S b.S || a.S == b.S
  else if op = 5 then !(Op.bytesLess a.S b.S || a.S == b.S)
  else !Op.bytesLess a.S b.S
/-- oper. -/
def operP (M : Mc) (i op x : Nat) : Ou Unit :=
  let b := topP M i
  let M1 := dropP M i
  let a := topP M1 i
  let M2 := dropP M1 i
  if op = 15 then (if a.T ≠ 2 ∨ b.T ≠ 2 then thr M2 () (str mArith) else ok (pushP M2 i [numV (arithW (x : Int) a.N b.N)]) ())
  else if op = 16 then (if cmpThr x a b then thr M2 () (str mCompare) else ok (pushP M2 i [boolV (cmpP x a b)]) ())
  else if op = 17 then
    (if ((a.T ≠ 3 ∧ a.T ≠ 2) ∨ (b.T ≠ 3 ∧ b.T ≠ 2)) then thr M2 () (str mConcat)
     else if 40 < (textP a).length + (textP b).length then thr M2 () (str mLong)
     else ok (pushP M2 i [str (textP a ++ textP b)]) ())
  else if op = 18 then ok (pushP M1 i [boolV (!truthy b)]) ()
  else if op = 19 then (if b.T ≠ 2 then thr M1 () (str mArith) else ok (pushP M1 i [numV (negW b.N)]) ())
  else if b.T = 3 then ok (pushP M1 i [numV (fl b.S.length)]) ()
  else if b.T = 4 then ok (pushP M1 i [numV (fl (lenP M.tb (b.N : Int)).1.toNat)]) ()
  else thr M1 () (str mLen)
/-- forOp. -/
def forP (M : Mc) (i op x : Nat) : Ou Unit :=
  let a := slot M i x
  let b := slot M i (x + 1)
  let c := slot M i (x + 2)
  if op = 30 then
    (if a.T ≠ 2 ∨ b.T ≠ 2 ∨ c.T ≠ 2 then thr M () (str mFor)
     else if cmpW 1 (double.order c.N 0) || cmpW 2 (double.order c.N c.N) then thr M () (str mFor) else ok M ())
  else if op = 31 then ok (pushP M i [boolV (cmpW (if cmpW 5 (double.order c.N 0) then 4 else 6) (double.order a.N b.N))]) ()
  else if a.T ≠ 4 then thr M () (str mFor)
  else
    let r := nextP M.tb (a.N : Int) b
    if r.2.2 ≠ 0 then thr M () (str mNext)
    else
      let M1 := setSlot (setSlot (setSlot M i (x + 1) r.1) i (x + 2) r.1) i (x + 3) r.2.1
      ok (pushP M1 i [boolV (decide (r.1.T ≠ 0))]) ()
/-- plain. -/
def plainP (M : Mc) (i op x : Nat) : Ou Unit :=
  let f := (M.t i).f
  let p := M.p f.clo
  let k := M.ks[p.k + x]?.getD nilV
  let v := topP M i
  let M1 := dropP M i
  let v2 := topP M1 i
  let M2 := dropP M1 i
  let v3 := topP M2 i
  let M3 := dropP M2 i
  if op = 1 then ok (pushP M i [k]) ()
  else if op = 2 then ok (pushP M i [nilV]) ()
  else if op = 3 then ok (pushP M i [boolV true]) ()
  else if op = 4 then ok (pushP M i [boolV false]) ()
  else if op = 5 then ok (pushP M i [slot M i x]) ()
  else if op = 6 then ok (setSlot M1 i x v) ()
  else if op = 7 then ok (pushP M i [upP M f.clo x]) ()
  else if op = 8 then ok (setUpP M1 f.clo x v) ()
  else if op = 9 then ok (pushP M i [(getP M.tb 0 k).1]) ()
  else if op = 10 then storeP M1 0 k v
  else if op = 11 then (if v2.T ≠ 4 then thr M2 () (str mIndex) else ok (pushP M2 i [(getP M.tb (v2.N : Int) v).1]) ())
  else if op = 12 then (if v3.T ≠ 4 then thr M3 () (str mIndex) else storeP M3 (v3.N : Int) v2 v)
  else if op = 13 then (if v2.T ≠ 4 then thr M1 () (str mIndex) else storeP M1 (v2.N : Int) (numV (fl x)) v)
  else if op = 14 then (if (makeP M.tb).2.1 ≠ 0 then trp M () 8 else ok (pushP { M with tb := (makeP M.tb).2.2 } i [⟨4, M.tb.length, []⟩]) ())
  else if op = 25 then ok M1 ()
  else if op = 28 then (closP M i x).then () fun M c => ok (pushP M i [⟨5, c, []⟩]) ()
  else if op = 29 then ok (closeP M i (f.base + x)) ()
  else if op = 30 ∨ op = 31 ∨ op = 32 then forP M i op x
  else operP M i op x
/-- The builtins that answer two results at once. -/
def builtP (M : Mc) (b : Nat) (a0 a1 : V) : Ou (V × V) :=
  let d := (nilV, nilV)
  if b = 1 then (if 200 < M.out.length + (textP a0).length + 1 then trp M d 10 else ok { M with out := M.out ++ textP a0 ++ [10] } d)
  else if b = 2 then ok M (str (textP a0), nilV)
  else if b = 3 then (if a0.T = 2 then ok M (a0, nilV) else if a0.T = 3 ∧ (parseP a0.S).2 = 0 then ok M (numV (parseP a0.S).1, nilV) else ok M d)
  else if b = 4 then ok M (str (tyName a0.T), nilV)
  else if b = 5 then thr M d a0
  else if b = 7 then (if a0.T ≠ 4 then thr M d (str mNext) else if (nextP M.tb (a0.N : Int) a1).2.2 ≠ 0 then thr M d (str mNext) else ok M ((nextP M.tb (a0.N : Int) a1).1, (nextP M.tb (a0.N : Int) a1).2.1))
  else if b = 8 then (if a0.T ≠ 5 then thr M d (str mCall) else if 5 ≤ M.th.length then trp M d 8 else ok (spawnP M a0.N) (⟨7, M.th.length, []⟩, nilV))
  else (if a0.T ≠ 7 then thr M d (str mCo) else ok M (str (stName (M.t a0.N).st), nilV))
/-- call, behind the burn. -/
def callB (M : Mc) (i x : Nat) : Ou Ev :=
  let sk := (M.t i).sk
  let at' := sk.length - x - 1
  let fn := sk[at']?.getD nilV
  let args := sk.drop (at' + 1)
  let a0 := args[0]?.getD nilV
  let a1 := args[1]?.getD nilV
  let M := setPc M i ((M.t i).f.pc + 1)
  if fn.T = 5 then (if 8 ≤ (M.t i).fr.length then thr M noEv (str mDepth) else ok (enterP M i fn.N args at' false) noEv)
  else if fn.T ≠ 6 then thr M noEv (str mCall)
  else if fn.N = 6 then
    (if a0.T = 5 ∧ (M.t i).fr.length < 8 then ok (enterP M i a0.N [a1] at' true) noEv
     else ok (pushP (cutP M i at') i [boolV false, str (if a0.T = 5 then mDepth else mCall)]) noEv)
  else if fn.N = 9 then
    (if a0.T ≠ 7 then thr M noEv (str mCo)
     else if (M.t a0.N).st = 1 ∨ (M.t a0.N).st = 2 then ok (cutP (M.setT i { M.t i with st := 3 }) i at') ⟨4, a0.N, 0, a1, nilV⟩
     else ok (pushP (cutP M i at') i [boolV false, str (stName (M.t a0.N).st)]) noEv)
  else if fn.N = 10 then (if i = 0 then thr M noEv (str mYield) else ok (cutP (M.setT i { M.t i with st := 2 }) i at') ⟨3, 0, 0, a0, nilV⟩)
  else (builtP M fn.N a0 a1).then noEv fun M r => ok (pushP (cutP M i at') i [r.1, r.2]) noEv
def callP (M : Mc) (i x : Nat) : Ou Ev := (burnP M).then noEv fun M _ => callB M i x
def pc1 (M : Mc) (i : Nat) : Mc := setPc M i ((M.t i).f.pc + 1)
/-- The tests ahead of an instruction. -/
def testP (M : Mc) (i op x : Nat) : Bool :=
  soundP M i op x && (decide ((effP op x).1 ≤ ((M.t i).sk.length : Int) - ((M.t i).f.base : Int) - ((M.p (M.t i).f.clo).ns : Int)) && decide (((M.t i).sk.length : Int) - ((M.t i).f.base : Int) - ((M.p (M.t i).f.clo).ns : Int) + (effP op x).2 ≤ 128))
def instP (M : Mc) (i op x : Nat) : Ou Ev :=
  if op = 21 then (jumpP M i x).then noEv fun M _ => ok M noEv
  else if op = 22 then (if truthy (topP M i) then ok (pc1 (dropP M i) i) noEv else (jumpP (dropP M i) i x).then noEv fun M _ => ok M noEv)
  else if op = 23 ∨ op = 24 then (if truthy (topP M i) = decide (op = 24) then (jumpP M i x).then noEv fun M _ => ok M noEv else ok (pc1 (dropP M i) i) noEv)
  else if op = 26 then callP M i x
  else if op = 27 then ok (retP M i).1 (retP M i).2
  else (plainP M i op x).then noEv fun M _ => ok (pc1 M i) noEv
/-- One round of the dispatch loop. -/
def stepP (M : Mc) (i : Nat) : Ou Ev :=
  let f := (M.t i).f
  let p := M.p f.clo
  if p.nc ≤ f.pc then trp M noEv 11
  else
    let c := M.co[p.co + f.pc]?.getD (0, 0)
    if testP M i c.1 c.2 then instP M i c.1 c.2 else trp M noEv 11
end Go.Proofs.Qxb6500293aGreatRR
