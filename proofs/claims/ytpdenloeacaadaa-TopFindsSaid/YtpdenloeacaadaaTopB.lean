/- Walks: a server as the top's laws begin. No conditions. -/
import Derived.Test.YtpdenloeacaadaaSrvB
import Derived.Test.YtpdenloeacaadaaOps
namespace Go.Proofs.Ytpdenloeacaadaa.E
open Go
set_option linter.unusedSimpArgs false
set_option linter.unusedVariables false
set_option linter.unusedSectionVars false
set_option maxRecDepth 20000
set_option maxHeartbeats 1000000
def rlsB : List Rl := [⟨0, -1, 0, 40, 1, true⟩, ⟨1, -1, 0, 40, 3, true⟩, ⟨2, -1, 0, 40, 255, true⟩]
def svT : Sv := ⟨[0, 1, 2], rlsB, [], []⟩
def opB : OpS := ⟨1, ⟨0, 0, 0⟩, rlsB, ⟨⟨#[]⟩, 0, [], []⟩, ⟨#[]⟩, ⟨⟨#[]⟩, ⟨#[]⟩⟩⟩
theorem svT_ok : svOk svT := ⟨by decide +kernel, by decide +kernel, by decide +kernel, by decide⟩
theorem rlsB_ok : chkRs rlsB = 0 := by decide +kernel
theorem svT_do : doS ⟨[0, 1, 2], [], [], []⟩ opB = (svT, tdE 0) := by
 unfold doS
 rw [if_pos (show opB.kind = 1 from rfl), if_pos (show chkRs opB.rs = 0 from rlsB_ok)]
 rfl
theorem opB_f : opB.kind = 1 ∧ opB.who = ⟨0, 0, 0⟩ ∧ opB.rs = rlsB ∧ opB.rcd = ⟨⟨#[]⟩, 0, [], []⟩ ∧ opB.id = ⟨#[]⟩ ∧ opB.fd = ⟨⟨#[]⟩, ⟨#[]⟩⟩ := ⟨rfl, rfl, rfl, rfl, rfl, rfl⟩
theorem begun_ok : Ok Try.prog 4 [] (B true) := by
 refine Ok.of_wp (rs := [.tmp 0]) (n := 15) Try.func4 rfl rfl rfl (by simp) fo (by kernel_rfl) ?_
 have e : putE [] ⟨⟨#[97]⟩, 0, [], []⟩ = 0 := by decide +kernel
 simp (decide := true) (maxSteps := 4000000) -implicitDefEqProofs only [S0, ↓reduceIte, Int.reduceAdd, Int.reduceSub, Int.reduceToNat, Int.reduceNeg, Nat.reduceAdd, Nat.reduceMul, Nat.reduceSub, reduceCtorEq]
 refine call_ok (Put_ok [] ⟨⟨#[97]⟩, 0, [], []⟩) (by simp (decide := true) (maxSteps := 4000000) -implicitDefEqProofs only [S0, ↓reduceIte, Int.reduceAdd, Int.reduceSub, Int.reduceToNat, Int.reduceNeg, Nat.reduceAdd, Nat.reduceMul, Nat.reduceSub, reduceCtorEq]) ?_
 rw [e, if_pos rfl]
 simp (decide := true) (maxSteps := 4000000) -implicitDefEqProofs only [S0, ↓reduceIte, Int.reduceAdd, Int.reduceSub, Int.reduceToNat, Int.reduceNeg, Nat.reduceAdd, Nat.reduceMul, Nat.reduceSub, reduceCtorEq]
 rfl
theorem began_ok : OkH Try.prog 5 [] [] (.tup [.ptr (.e 0) 1 0, B true]) [(1, .cells 72 (svC svT 1)), (1, .row 77 4 none (svT.notes.map ntC))] := by
 refine OkH.of_wp (rs := [.tmp 0, .tmp 1]) (n := 23) [some (.l 7), some (.m 7 1)] Try.func5 rfl rfl rfl (by simp) fo (by kernel_rfl) ?_
 simp (decide := true) (maxSteps := 4000000) -implicitDefEqProofs only [S0, ↓reduceIte, Int.reduceAdd, Int.reduceSub, Int.reduceToNat, Int.reduceNeg, Nat.reduceAdd, Nat.reduceMul, Nat.reduceSub, reduceCtorEq]
 refine callHF (srvNew_ok up012) [.l 7, .m 7 1] ?_
 simp (decide := true) (maxSteps := 4000000) -implicitDefEqProofs only [S0, ↓reduceIte, Int.reduceAdd, Int.reduceSub, Int.reduceToNat, Int.reduceNeg, Nat.reduceAdd, Nat.reduceMul, Nat.reduceSub, reduceCtorEq]
 refine ⟨rfl, ?_⟩
 have v1 : vD sv0 opB = 0 := rfl
 have e1 : doS sv0 opB = (svT, tdE 0) := svT_do
 have cD := srvDoR_ok sv0_ok opB rfl rlsB_ok
 rw [e1] at cD
 refine callH cD [.l 7, .m 7 1, .l 16] ?_
 simp (decide := true) (maxSteps := 4000000) -implicitDefEqProofs only [S0, ↓reduceIte, Int.reduceAdd, Int.reduceSub, Int.reduceToNat, Int.reduceNeg, Nat.reduceAdd, Nat.reduceMul, Nat.reduceSub, reduceCtorEq, opB_f, tdE, svT, rlsB, Option.getD_some]
 exact ⟨⟨rfl, rfl, rfl, rfl⟩, rfl, rfl, rfl⟩
def opS' (o : OpR) : OpS := ⟨o.kind, ⟨o.role, o.why, o.time⟩, opRules o, ⟨o.id, o.cats, [⟨⟨#[107]⟩, o.fv⟩], []⟩, o.id, ⟨⟨#[107]⟩, ⟨#[120]⟩⟩⟩
theorem opS'_C (l : List OpR) : (l.map opS').map opC' = l.map opC := by rw [List.map_map]; rfl
theorem opsT_len (l : List (List Int)) : ((opsL l).map opS').length ≤ 25 := by
 rw [List.length_map]
 unfold opsL
 have : ∀ m : List (List Int), (m.flatMap op1).length ≤ m.length := by
  intro m
  induction m with
  | nil => simp
  | cons c m ih =>
   rw [List.flatMap_cons, List.length_append, List.length_cons]
   have := op1_len c
   omega
 have := this (l.take 25)
 rw [List.length_take] at this
 omega
/-- An operation lays at most one version more. -/
theorem doS_len (s : Sv) (o : OpS) : (doS s o).1.l.length ≤ s.l.length + 1 := by
 by_cases h : (o.kind = 2 ∨ o.kind = 3) ∧ (doS s o).2.code = 0
 ·obtain ⟨v, e, _⟩ := writes_yes h.1 h.2
  rw [e, List.length_append]
  simp
 ·rw [writes_not (by
   by_cases hk : o.kind = 2 ∨ o.kind = 3
   ·exact .inr fun e => h ⟨hk, e⟩
   ·exact .inl ⟨fun e => hk (.inl e), fun e => hk (.inr e)⟩)]
  omega
theorem runL_len (s : Sv) (q : List OpS) : (runL s q).l.length ≤ s.l.length + q.length := by
 induction q generalizing s with
 | nil => exact Nat.le_refl _
 | cons o q ih =>
  have h1 := ih (doS s o).1
  have h2 := doS_len s o
  show (runL (doS s o).1 q).l.length ≤ _
  rw [List.length_cons]
  omega
end Go.Proofs.Ytpdenloeacaadaa.E
