/- Walks: groups in the laws. No conditions. -/
import Derived.Test.YtonolfpnidaflaaGreatDoorGrpL
import Derived.Test.YtonolfpnidaflaaGreatDoorGSt
namespace Go.Proofs.YtonolfpnidaflaaGreatDoor.E
open Go
set_option linter.unusedSimpArgs false
set_option linter.unusedVariables false
set_option linter.unusedSectionVars false
set_option maxRecDepth 20000
set_option maxHeartbeats 2000000
abbrev gAt (T : Nat) (g : Gr) : Hp := [(.l T, 1, .cells 131 [I g.n, .own (.m T 1) 1 1 0 g.log.length, .own (.m T 2) 1 1 0 g.n, .own (.m T 4) 1 1 0 g.n]), (.m T 1, 1, .row 9 1 none (ss1 g.log)), (.m T 2, 1, .cells 33 (.own (.m T 3) 1 1 0 g.log.length :: fols g.fol)), (.m T 3, 1, .row 9 1 none (ss1 g.log)), (.m T 4, 1, .row 3 1 (some g.n) (is1 g.ack))]
abbrev gS (T : Nat) : List Site := [.l T, .m T 1, .m T 2, .m T 3, .m T 4]
theorem grNewF {n : Nat} (h : n < 5) (m : Int) (hm : m = ((n + 1 : Nat) : Int)) : OkH Tryz.prog 27 [I m] [] (.tup [.ptr (.e 0) 1 0, I 0]) (grHv (gFull n []) 1 1) := by
 subst hm
 have := grNew_ok (n := n + 1) (by omega) (by omega)
 rwa [gNew_full] at this
theorem grAddF {n : Nat} (hn : n < 5) {l : List ByteArray} (hl : l.length < 60) (s : ByteArray) : OkH Tryz.prog 29 [.ptr (.e 0) 0 0, S s] (grH (gFull n l)) (.tup [I ((l.length + 1 : Nat) : Int), I 0]) (grHv (gFull n (l ++ [s])) 1 0) := by
 have := grAdd_ok (gFull n l) hl s (by simp [gFull]) (by simp [gFull])
 rwa [gAdd_full] at this
end Go.Proofs.YtonolfpnidaflaaGreatDoor.E
