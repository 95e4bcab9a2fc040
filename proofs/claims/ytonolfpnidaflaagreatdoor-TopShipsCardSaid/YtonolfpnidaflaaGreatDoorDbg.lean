/- For looking at goals only: code is not printed. -/
import Derived.Test.YtonolfpnidaflaaGreatDoorEngineC
namespace Go.Proofs.YtonolfpnidaflaaGreatDoor.E
open Go
set_option linter.unusedSimpArgs false
set_option linter.unusedVariables false
set_option linter.unusedSectionVars false
set_option maxRecDepth 20000
@[app_unexpander Go.Code.seq] def uSeq : Lean.PrettyPrinter.Unexpander := fun _ => `(CODE)
@[app_unexpander Go.Code.region] def uReg : Lean.PrettyPrinter.Unexpander := fun _ => `(REGION)
@[app_unexpander Go.Code.loop] def uLoop : Lean.PrettyPrinter.Unexpander := fun _ => `(LOOP)
@[app_unexpander Ex.then] def uThen : Lean.PrettyPrinter.Unexpander := fun _ => `(K)
@[app_unexpander Ex.inB] def uInB : Lean.PrettyPrinter.Unexpander := fun _ => `(K)
@[app_unexpander AOps] def uAOps : Lean.PrettyPrinter.Unexpander := fun _ => `(OPS)
@[app_unexpander AL1] def uAL1 : Lean.PrettyPrinter.Unexpander
 | `($_ (kp $_ $t $h $_ $_) $a $b $c) => `(LOAD $t $h $a $b $c)
 | `($_ $x $a $b $c) => `(LOAD $x $a $b $c)
 | _ => `(LOAD)
@[app_unexpander Nxt] def uNxt : Lean.PrettyPrinter.Unexpander
 | `($_ $_ $_ $_ $_ $_ $_ $_ $x) => `(NEXT $x)
 | _ => `(NEXT)
@[app_unexpander ACallY] def uCall : Lean.PrettyPrinter.Unexpander
 | `($_ $_ $f $_ $s $_ $_ $x) => `(CALL $f $s $x)
 | _ => `(CALL)
end Go.Proofs.YtonolfpnidaflaaGreatDoor.E
