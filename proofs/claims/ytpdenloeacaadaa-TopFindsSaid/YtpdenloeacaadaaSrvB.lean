/- Walks: servers, as the laws begin; answers held against each other. No conditions. -/
import Derived.Test.YtpdenloeacaadaaSrv
namespace Go.Proofs.Ytpdenloeacaadaa.E
open Go
set_option linter.unusedSimpArgs false
set_option linter.unusedVariables false
set_option linter.unusedSectionVars false
set_option maxRecDepth 20000
set_option maxHeartbeats 1000000
abbrev rlC (r : Rl) : List AV := [I r.role, I r.why, I r.fr, I r.to, I r.cats, B r.allow]
theorem cloneRulesO_ok (l : List Rl) (hl : l.length ≤ 1000000) : OkH Try.prog 21 [.own (.e 0) 0 6 0 l.length] [.row 68 6 none (l.map rlC)] (.own (.e 1) 1 6 0 l.length) [(0, .row 68 6 none (l.map rlC)), (1, .row 68 6 none (l.map rlC))] := by
 refine OkH.of_wpX (rs := [.tmp 2]) (n := 8) Try.func21 rfl rfl rfl (by simp) fo (by kernel_rfl) ?_
 simp (decide := true) (maxSteps := 4000000) -implicitDefEqProofs only [S0, ↓reduceIte, Int.reduceAdd, Int.reduceSub, Int.reduceToNat, Int.reduceNeg, Nat.reduceAdd, Nat.reduceMul, Nat.reduceSub, reduceCtorEq]
 refine ⟨fun h => ⟨[none], ?_⟩, by rw [List.length_take, List.length_map]; omega, ⟨[some (.l 5)], ?_⟩⟩
 ·obtain rfl := List.eq_nil_of_length_eq_zero h
  simp (decide := true) (maxSteps := 4000000) -implicitDefEqProofs only [S0, ↓reduceIte, Int.reduceAdd, Int.reduceSub, Int.reduceToNat, Int.reduceNeg, Nat.reduceAdd, Nat.reduceMul, Nat.reduceSub, reduceCtorEq]
 ·simp (decide := true) (maxSteps := 4000000) -implicitDefEqProofs only [S0, ↓reduceIte, Int.reduceAdd, Int.reduceSub, Int.reduceToNat, Int.reduceNeg, Nat.reduceAdd, Nat.reduceMul, Nat.reduceSub, reduceCtorEq, tk1]
abbrev opR (o : OpS) : AV := .agg [I o.kind, I o.who.role, I o.who.why, I o.who.time, .own (.e 2) 0 6 0 o.rs.length, S o.rcd.id, I o.rcd.cats, fds o.rcd.fields, strs o.rcd.refs, S o.id, S o.fd.key, S o.fd.val]
theorem srvDoR_ok {s : Sv} (hs : svOk s) (o : OpS) (k1 : o.kind = 1) (h : chkRs o.rs = 0) : OkH Try.prog 7 [.ptr (.e 0) 0 0, opR o] (svH s ++ [.row 68 6 none (o.rs.map rlC)]) (tdV (tdE 0)) (svH' (doS s o).1 0 ++ [(0, .row 68 6 none (o.rs.map rlC))]) := by
 have hl := (chkRs_of h).1
 refine OkH.of_wp (rs := [.cell 4 44]) (n := 140) [] Try.func7 rfl rfl rfl (by simp) fo (by kernel_rfl) ?_
 unfold doS
 rw [if_pos k1, if_pos h]
 simp (decide := true) (maxSteps := 4000000) -implicitDefEqProofs only [S0, ↓reduceIte, Int.reduceAdd, Int.reduceSub, Int.reduceToNat, Int.reduceNeg, Nat.reduceAdd, Nat.reduceMul, Nat.reduceSub, reduceCtorEq, k1, tk1]
 refine lend_eq (chkRules_ok o.rs) rfl ?_
 simp (decide := true) (maxSteps := 4000000) -implicitDefEqProofs only [S0, ↓reduceIte, Int.reduceAdd, Int.reduceSub, Int.reduceToNat, Int.reduceNeg, Nat.reduceAdd, Nat.reduceMul, Nat.reduceSub, reduceCtorEq, h]
 refine callH (cloneRulesO_ok o.rs (by omega)) [.e 2, .l 25] ?_
 simp (decide := true) (maxSteps := 4000000) -implicitDefEqProofs only [S0, ↓reduceIte, Int.reduceAdd, Int.reduceSub, Int.reduceToNat, Int.reduceNeg, Nat.reduceAdd, Nat.reduceMul, Nat.reduceSub, reduceCtorEq, tdE, tk1, Option.getD_some]
theorem mkOp (k : Int) (w : Wh) (rs : List Rl) (r : Rc) (id : ByteArray) (f : Fd) : ∃ o : OpS, o.kind = k ∧ o.who = w ∧ o.rs = rs ∧ o.rcd = r ∧ o.id = id ∧ o.fd = f := ⟨⟨k, w, rs, r, id, f⟩, rfl, rfl, rfl, rfl, rfl, rfl⟩
def sv1 : Sv := ⟨[0], [], [], []⟩
def opAll : OpS := ⟨1, ⟨0, 0, 0⟩, [⟨0, -1, 0, 9, 255, true⟩], ⟨⟨#[]⟩, 0, [], []⟩, ⟨#[]⟩, ⟨⟨#[]⟩, ⟨#[]⟩⟩⟩
def opPutA : OpS := ⟨2, ⟨0, 0, 0⟩, [], ⟨⟨#[97]⟩, 3, [], []⟩, ⟨#[]⟩, ⟨⟨#[]⟩, ⟨#[]⟩⟩⟩
def opGetA : OpS := ⟨4, ⟨0, 0, 0⟩, [], ⟨⟨#[]⟩, 0, [], []⟩, ⟨#[97]⟩, ⟨⟨#[]⟩, ⟨#[]⟩⟩⟩
theorem sv1_ok : svOk sv1 := ⟨by decide +kernel, by decide +kernel, by decide +kernel, by decide⟩
theorem begun1 : (doS sv1 opAll).2.code = 0 := by decide +kernel
theorem begun2 : (doS (doS sv1 opAll).1 opPutA).2.code = 0 := by decide +kernel
theorem begun3 : (doS (doS (doS sv1 opAll).1 opPutA).1 opGetA).2.vs.length = 1 := by decide +kernel
theorem opAll_f : opAll.kind = 1 ∧ opAll.who = ⟨0, 0, 0⟩ ∧ opAll.rs = [⟨0, -1, 0, 9, 255, true⟩] ∧ opAll.rcd = ⟨⟨#[]⟩, 0, [], []⟩ ∧ opAll.id = ⟨#[]⟩ ∧ opAll.fd = ⟨⟨#[]⟩, ⟨#[]⟩⟩ := ⟨rfl, rfl, rfl, rfl, rfl, rfl⟩
theorem opPutA_f : opPutA.kind = 2 ∧ opPutA.who = ⟨0, 0, 0⟩ ∧ opPutA.rs = [] ∧ opPutA.rcd = ⟨⟨#[97]⟩, 3, [], []⟩ ∧ opPutA.id = ⟨#[]⟩ ∧ opPutA.fd = ⟨⟨#[]⟩, ⟨#[]⟩⟩ := ⟨rfl, rfl, rfl, rfl, rfl, rfl⟩
theorem opGetA_f : opGetA.kind = 4 ∧ opGetA.who = ⟨0, 0, 0⟩ ∧ opGetA.rs = [] ∧ opGetA.rcd = ⟨⟨#[]⟩, 0, [], []⟩ ∧ opGetA.id = ⟨#[97]⟩ ∧ opGetA.fd = ⟨⟨#[]⟩, ⟨#[]⟩⟩ := ⟨rfl, rfl, rfl, rfl, rfl, rfl⟩
theorem srvNew1 : OkH Try.prog 19 [ints [0]] [] (.tup [.ptr (.e 0) 1 0, I 0]) [(1, .cells 72 (svC sv1 1)), (1, .row 77 4 none (sv1.notes.map ntC))] := srvNew_ok sv1_ok.1
theorem ext_len {α : Type} {l : List α} {i : Nat} (h : (i : Int) < l.length) : ∃ x, l[i]? = some x := lt_get (by omega)
/-- A server at a caller's places. -/
abbrev svAt (st : Site) (n : Nat) (s : Sv) : List AV := [ints s.up, rules s.rs, vers s.l, .own st n 4 0 s.notes.length]
abbrev opsA (q : List OpS) : AV := .list 12 (q.map opC')
theorem run_nil (s : Sv) : runL s [] = s := rfl
theorem run_snoc {s : Sv} {q : List OpS} {i : Nat} {o : OpS} (h : q[i]? = some o) : runL s (q.take (i + 1)) = (doS (runL s (q.take i)) o).1 := by rw [take_get h, runL_add]
end Go.Proofs.Ytpdenloeacaadaa.E
