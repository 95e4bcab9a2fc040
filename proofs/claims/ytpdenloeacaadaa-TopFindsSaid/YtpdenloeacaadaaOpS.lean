/- Views: operations. No conditions. -/
import Derived.Test.YtpdenloeacaadaaGLa
import Derived.Test.YtpdenloeacaadaaGSt
namespace Go.Proofs.Ytpdenloeacaadaa.E
open Go
set_option linter.unusedSimpArgs false
set_option linter.unusedVariables false
set_option linter.unusedSectionVars false
set_option maxRecDepth 20000
structure OpS where
 kind : Int
 who : Wh
 rs : List Rl
 rcd : Rc
 id : ByteArray
 fd : Fd
abbrev opC' (o : OpS) : List AV := [I o.kind, I o.who.role, I o.who.why, I o.who.time, rules o.rs, S o.rcd.id, I o.rcd.cats, fds o.rcd.fields, strs o.rcd.refs, S o.id, S o.fd.key, S o.fd.val]
abbrev opV (o : OpS) : AV := .agg (opC' o)
abbrev opsV (l : List OpS) : AV := .list 12 (l.map opC')
def inI (n : Int) : Prop := -9223372036854775808 ≤ n ∧ n ≤ 9223372036854775807
def whoI (w : Wh) : Prop := inI w.role ∧ inI w.why ∧ inI w.time
end Go.Proofs.Ytpdenloeacaadaa.E
