/- What an index says: entries in order, each with its names in order; in plain lists. No conditions. -/
import Derived.Test.YtpdenloeacaadaaNestB
import Derived.Test.YtpdenloeacaadaaPageS
namespace Go.Proofs.Ytpdenloeacaadaa.E
open Go
set_option linter.unusedSimpArgs false
set_option linter.unusedVariables false
set_option linter.unusedSectionVars false
set_option maxRecDepth 20000
set_option maxHeartbeats 1000000
/-- A name laid into a list in order. -/
def insN (id : ByteArray) (l : List ByteArray) : List ByteArray := if (l.any fun f => decide (f = id)) then l else l.take (posS id l) ++ [id] ++ l.drop (posS id l)
def posF (k : Fd) (es : Es) : Nat := (es.filter fun e => fLt e.1 k).length
def isF (k : Fd) (es : Es) : Bool := es.any fun e => decide (e.1 = k)
/-- One field of a record. -/
def add1 (id : ByteArray) (f : Fd) (es : Es) : Es :=
 if isF f es then (match es[posF f es]? with | some e => es.set (posF f es) (f, insN id e.2) | none => es)
 else es.take (posF f es) ++ [(f, [id])] ++ es.drop (posF f es)
def addL (id : ByteArray) (fs : List Fd) (es : Es) : Es := fs.foldl (fun es f => add1 id f es) es
def dropL (id : ByteArray) (es : Es) : Es := (es.map fun e => (e.1, e.2.filter fun x => !decide (x = id))).filter fun e => !e.2.isEmpty
/-- In order, without twice the same, without empty lists. -/
def EsUp (es : Es) : Prop := (es.Pairwise fun a b => fLt a.1 b.1 = true) ∧ ∀ e ∈ es, StrUp e.2 ∧ e.2 ≠ []
def memE (es : Es) (f : Fd) (id : ByteArray) : Prop := ∃ e ∈ es, e.1 = f ∧ id ∈ e.2
theorem posF_le (k : Fd) (es : Es) : posF k es ≤ es.length := List.length_filter_le _ _
theorem posS_le (k : ByteArray) (l : List ByteArray) : posS k l ≤ l.length := List.length_filter_le _ _
end Go.Proofs.Ytpdenloeacaadaa.E
