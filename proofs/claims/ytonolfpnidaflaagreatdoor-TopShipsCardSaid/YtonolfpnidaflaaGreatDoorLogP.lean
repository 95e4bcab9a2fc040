/- Plain law: what a line says. No conditions. -/
import Derived.Test.YtonolfpnidaflaaGreatDoorOpS
import Derived.Test.YtonolfpnidaflaaGreatDoorRecT
namespace Go.Proofs.YtonolfpnidaflaaGreatDoor.E
open Go
set_option linter.unusedSimpArgs false
set_option linter.unusedVariables false
set_option linter.unusedSectionVars false
set_option maxRecDepth 20000
def noFd : Fd := ⟨⟨#[]⟩, ⟨#[]⟩⟩
def noOp : OpS := ⟨0, ⟨0, 0, 0⟩, [], noRc, ⟨#[]⟩, noFd⟩
def catOk (c : Int) : Bool := decide (0 ≤ c ∧ c < 256)
def chkOp (o : OpS) : Int :=
 if o.kind = 1 then chkRs o.rs else if o.kind = 2 then (if whoOk o.who then chkRec o.rcd else 1) else if o.kind = 3 then (if whoOk o.who && catOk o.rcd.cats then (if idOk o.id then 0 else 3) else 1) else 3
def plainO (o : OpS) : OpS :=
 if o.kind = 1 then { noOp with kind := 1, rs := o.rs } else if o.kind = 2 then { noOp with kind := 2, who := o.who, rcd := o.rcd } else { noOp with kind := 3, who := o.who, id := o.id, rcd := { noRc with cats := o.rcd.cats } }
def numsL (l : List Int) : List UInt8 := l.flatMap fun n => 32 :: Lib.itoa n
def yn (b : Bool) : List UInt8 := if b then [121, 101, 115] else [110, 111]
def ruleL (r : Rl) : List UInt8 := numsL [r.role, r.why, r.fr, r.to, r.cats] ++ 32 :: yn r.allow
def plainL (o : OpS) : List UInt8 :=
 if o.kind = 2 then [112, 117, 116] ++ numsL [o.who.role, o.who.why, o.who.time] ++ 32 :: wrL o.rcd
 else if o.kind = 3 then [99, 117, 116] ++ numsL [o.who.role, o.who.why, o.who.time] ++ 32 :: (o.id.data.toList ++ numsL [o.rcd.cats])
 else [114, 117, 108, 101, 115] ++ o.rs.flatMap ruleL
def sumFrom : Nat → Nat → List UInt8 → Nat
 | _, n, [] => n
 | i, n, b :: l => sumFrom (i + 1) ((n + (i + 1) * b.toNat) % 65521) l
def sumL (l : List UInt8) : Nat := sumFrom 0 0 l
def lineL (o : OpS) : List UInt8 := plainL o ++ 32 :: 61 :: (Lib.itoa (sumL (plainL o)) ++ [10])
def writeL (o : OpS) : List UInt8 := if chkOp o = 0 then lineL o else []

/-! ### Words -/
structure Ws where
 l : List (List UInt8)
 bad : Bool
def nxt (w : Ws) : List UInt8 × Ws := match w.l with
 | [] => ([], ⟨[], true⟩)
 | s :: l => (s, ⟨l, w.bad⟩)
def numW (w : Ws) : Int × Ws := (numA (nxt w).1, ⟨(nxt w).2.l, (nxt w).2.bad || (numOk (nxt w).1).isNone⟩)
def whoW (w : Ws) : Wh × Ws := (⟨(numW w).1, (numW (numW w).2).1, (numW (numW (numW w).2).2).1⟩, (numW (numW (numW w).2).2).2)
def ruleW (w : Ws) : Rl × Ws :=
 let a := numW w
 let b := numW a.2
 let c := numW b.2
 let d := numW c.2
 let e := numW d.2
 let f := nxt e.2
 (⟨a.1, b.1, c.1, d.1, e.1, decide (f.1 = [121, 101, 115])⟩, ⟨f.2.l, f.2.bad || !(decide (f.1 = [121, 101, 115]) || decide (f.1 = [110, 111]))⟩)
def rulesW : Nat → Ws → List Rl × Ws
 | 0, w => ([], w)
 | k + 1, w => if w.l ≠ [] ∧ w.bad = false then ((ruleW w).1 :: (rulesW k (ruleW w).2).1, (rulesW k (ruleW w).2).2) else ([], w)
def endOk (w : Ws) : Bool := !w.bad && w.l.isEmpty
def putW (w : Ws) : OpS × Bool :=
 ({ noOp with kind := 2, who := (whoW w).1, rcd := readR (nxt (whoW w).2).1 }, endOk ⟨(nxt (whoW w).2).2.l, (nxt (whoW w).2).2.bad || decide (readC (nxt (whoW w).2).1 ≠ 0)⟩)
def cutW (w : Ws) : OpS × Bool :=
 ({ noOp with kind := 3, who := (whoW w).1, id := bs (nxt (whoW w).2).1, rcd := { noRc with cats := (numW (nxt (whoW w).2).2).1 } }, endOk (numW (nxt (whoW w).2).2).2)
def rulW (w : Ws) : OpS × Bool := ({ noOp with kind := 1, rs := (rulesW w.l.length w).1 }, endOk (rulesW w.l.length w).2)
def parseW (w0 : Ws) : OpS × Bool :=
 if (nxt w0).1 = [112, 117, 116] then putW (nxt w0).2 else if (nxt w0).1 = [99, 117, 116] then cutW (nxt w0).2 else if (nxt w0).1 = [114, 117, 108, 101, 115] then rulW (nxt w0).2 else (noOp, false)
def parseL (l : List UInt8) : OpS × Bool := parseW ⟨splitC 32 l, false⟩
/-- What a line without its end says. -/
def sumOk (l : List UInt8) : Option Nat := match Lib.atoiAll l with
 | .ok n => if 0 ≤ n ∧ n ≤ 65520 ∧ Lib.itoa n = l then some n.toNat else none
 | _ => none
def bodyC (p : List UInt8) : Int := if (parseL p).2 then chkOp (parseL p).1 else 10
def lineR (o : Option Nat) (p : List UInt8) : Int := match o with
 | none => 10
 | some n => if n ≠ sumL p then 8 else bodyC p
def lineC (l : List UInt8) : Int :=
 if Lib.lastIndex l [32, 61] < 0 then 10 else lineR (sumOk (l.drop ((Lib.lastIndex l [32, 61]).toNat + 2))) (l.take (Lib.lastIndex l [32, 61]).toNat)
def lineO (l : List UInt8) : OpS := if lineC l = 0 then (parseL (l.take (Lib.lastIndex l [32, 61]).toNat)).1 else noOp
/-- What a text says that begins with a line. -/
def lnC (s : List UInt8) : Int := if Lib.indexByte s 10 < 0 then 7 else lineC (s.take (Lib.indexByte s 10).toNat)
def lnO (s : List UInt8) : OpS := if lnC s = 0 then lineO (s.take (Lib.indexByte s 10).toNat) else noOp
def lnN (s : List UInt8) : Int := if lnC s = 0 then Lib.indexByte s 10 + 1 else 0
end Go.Proofs.YtonolfpnidaflaaGreatDoor.E
