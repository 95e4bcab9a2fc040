/- Walks: package server. No conditions. -/
import Derived.Test.YtpdenloeacaadaaSrvL
import Derived.Test.YtpdenloeacaadaaGRe
namespace Go.Proofs.Ytpdenloeacaadaa.E
open Go
set_option linter.unusedSimpArgs false
set_option linter.unusedVariables false
set_option linter.unusedSectionVars false
set_option maxRecDepth 20000
set_option maxHeartbeats 1000000
abbrev ntC (n : Nt) : List AV := [I n.who.role, I n.who.why, I n.who.time, S n.id]
abbrev nts (l : List Nt) : AV := .list 4 (l.map ntC)
abbrev tdV (t : Td) : AV := .agg [I t.code, vers t.vs, strs t.ids, nts t.nts]
abbrev svC (s : Sv) (n : Nat) : List AV := [ints s.up, rules s.rs, vers s.l, .own (.e 1) n 4 0 s.notes.length]
abbrev svH (s : Sv) : List Blk := [.cells 72 (svC s 0), .row 77 4 none (s.notes.map ntC)]
abbrev svH' (s : Sv) (v : Nat) : List (Nat × Blk) := [(0, .cells 72 (svC s v)), (v, .row 77 4 none (s.notes.map ntC))]
theorem May_all (s : Sv) (w : Wh) (c : Int) (hs : svOk s) : Ok Try.prog 53 [ints s.up, rules s.rs, whoV w, I c] (.tup [B (decide (sMay s w c = 0)), I (if sErr s w = 0 then (if 0 ≤ c ∧ c < 256 then 0 else 1) else sErr s w)]) := by
 unfold sMay
 by_cases h : sErr s w = 0
 ·have h' := h
  unfold sErr at h'
  obtain ⟨g1, g2, g3⟩ := seesE_zero.1 h'
  rw [if_pos h, if_pos h]
  by_cases hc : 0 ≤ c ∧ c < 256
  ·obtain ⟨n, rfl⟩ : ∃ n : Nat, c = n := ⟨c.toNat, by omega⟩
   rw [if_pos hc, if_pos hc]
   have := May_ok' g1 g2 g3 (c := n) (by omega)
   have e : decide ((if bnot (n : Int) (sSees s w) = 0 then (0 : Int) else 6) = 0) = decide (bnot (n : Int) (seesF (fitsW s.up w) s.rs : Nat) = 0) := by
    unfold sSees
    by_cases e : bnot (n : Int) (seesF (fitsW s.up w) s.rs : Nat) = 0
    ·rw [if_pos e, decide_eq_true e]; rfl
    ·rw [if_neg e, decide_eq_false e]; rfl
   rw [e]
   exact this
  ·rw [if_neg hc, if_neg hc]
   refine Ok.of_wp (rs := [.tmp 8, .tmp 9]) (n := 29) Try.func53 rfl rfl rfl (by simp) fo (by kernel_rfl) ?_
   simp (decide := true) (maxSteps := 4000000) -implicitDefEqProofs only [S0, ↓reduceIte, Int.reduceAdd, Int.reduceSub, Int.reduceToNat, Int.reduceNeg, Nat.reduceAdd, Nat.reduceMul, Nat.reduceSub, reduceCtorEq]
   refine call_eq (Sees_ok' g1 g2 g3) ?_
   simp (decide := true) (maxSteps := 4000000) -implicitDefEqProofs only [S0, ↓reduceIte, Int.reduceAdd, Int.reduceSub, Int.reduceToNat, Int.reduceNeg, Nat.reduceAdd, Nat.reduceMul, Nat.reduceSub, reduceCtorEq]
   refine call_eq (Cats_ok c) ?_
   rw [decide_eq_false hc]
   simp (decide := true) (maxSteps := 4000000) -implicitDefEqProofs only [S0, ↓reduceIte, Int.reduceAdd, Int.reduceSub, Int.reduceToNat, Int.reduceNeg, Nat.reduceAdd, Nat.reduceMul, Nat.reduceSub, reduceCtorEq, decide_false]
 ·rw [if_neg h, if_neg h, decide_eq_false h]
  exact May_bad c h
theorem srvNew_ok {up : List Int} (h : chkUp up = 0) : OkH Try.prog 19 [ints up] [] (.tup [.ptr (.e 0) 1 0, I 0]) [(1, .cells 72 (svC ⟨up, [], [], []⟩ 1)), (1, .row 77 4 none [])] := by
 have hu := upOk_of h
 refine OkH.of_wp (rs := [.tmp 2, .tmp 3]) (n := 14) [some (.l 13), none] Try.func19 rfl rfl rfl (by simp) fo (by kernel_rfl) ?_
 simp (decide := true) (maxSteps := 4000000) -implicitDefEqProofs only [S0, ↓reduceIte, Int.reduceAdd, Int.reduceSub, Int.reduceToNat, Int.reduceNeg, Nat.reduceAdd, Nat.reduceMul, Nat.reduceSub, reduceCtorEq]
 refine call_eq (rCheck_ok up) ?_
 simp (decide := true) (maxSteps := 4000000) -implicitDefEqProofs only [S0, ↓reduceIte, Int.reduceAdd, Int.reduceSub, Int.reduceToNat, Int.reduceNeg, Nat.reduceAdd, Nat.reduceMul, Nat.reduceSub, reduceCtorEq, h]
 refine callH (cloneInts_ok up (by omega)) [.l 11] ?_
 simp (decide := true) (maxSteps := 4000000) -implicitDefEqProofs only [S0, ↓reduceIte, Int.reduceAdd, Int.reduceSub, Int.reduceToNat, Int.reduceNeg, Nat.reduceAdd, Nat.reduceMul, Nat.reduceSub, reduceCtorEq, tk1]
theorem srvPart_ok {s : Sv} (hs : svOk s) (w : Wh) : OkH Try.prog 26 [.ptr (.e 0) 0 0, whoV w] (svH s) (.tup [vers (if sErr s w = 0 then partL (sSees s w) s.l else []), I (sErr s w)]) (svH' s 0) := by
 refine OkH.of_wp (rs := [.tmp 4, .tmp 5]) (n := 32) [] Try.func26 rfl rfl rfl (by simp) fo (by kernel_rfl) ?_
 simp (decide := true) (maxSteps := 4000000) -implicitDefEqProofs only [S0, ↓reduceIte, Int.reduceAdd, Int.reduceSub, Int.reduceToNat, Int.reduceNeg, Nat.reduceAdd, Nat.reduceMul, Nat.reduceSub, reduceCtorEq]
 by_cases h : sErr s w = 0
 ·have h' := h
  unfold sErr at h'
  obtain ⟨g1, g2, g3⟩ := seesE_zero.1 h'
  refine call_eq (Sees_ok' g1 g2 g3) ?_
  simp (decide := true) (maxSteps := 4000000) -implicitDefEqProofs only [S0, ↓reduceIte, Int.reduceAdd, Int.reduceSub, Int.reduceToNat, Int.reduceNeg, Nat.reduceAdd, Nat.reduceMul, Nat.reduceSub, reduceCtorEq, h]
  refine call_eq (Part_okS hs.2.2.1 (seesF_lt g3)) ?_
  simp (decide := true) (maxSteps := 4000000) -implicitDefEqProofs only [S0, ↓reduceIte, Int.reduceAdd, Int.reduceSub, Int.reduceToNat, Int.reduceNeg, Nat.reduceAdd, Nat.reduceMul, Nat.reduceSub, reduceCtorEq, sSees, sErr, Option.getD_some]
 ·have h' := h
  unfold sErr at h'
  refine call_eq (Sees_bad h') ?_
  simp (decide := true) (maxSteps := 4000000) -implicitDefEqProofs only [S0, ↓reduceIte, Int.reduceAdd, Int.reduceSub, Int.reduceToNat, Int.reduceNeg, Nat.reduceAdd, Nat.reduceMul, Nat.reduceSub, reduceCtorEq, h, h', sErr, Option.getD_some]
theorem srvPut_ok {s : Sv} (hs : svOk s) (o : OpS) : OkH Try.prog 22 [.ptr (.e 0) 0 0, opV o] (svH s) (I (doPut s o).2.code) (svH' (doPut s o).1 0) := by
 refine OkH.of_wp (rs := [.tmp 4]) (n := 54) [] Try.func22 rfl rfl rfl (by simp) fo (by kernel_rfl) ?_
 unfold doPut
 simp (decide := true) (maxSteps := 4000000) -implicitDefEqProofs only [S0, ↓reduceIte, Int.reduceAdd, Int.reduceSub, Int.reduceToNat, Int.reduceNeg, Nat.reduceAdd, Nat.reduceMul, Nat.reduceSub, reduceCtorEq]
 refine call_eq (recCheck_ok o.rcd) ?_
 by_cases h1 : chkRec o.rcd = 0
 ·rw [if_pos h1]
  simp (decide := true) (maxSteps := 4000000) -implicitDefEqProofs only [S0, ↓reduceIte, Int.reduceAdd, Int.reduceSub, Int.reduceToNat, Int.reduceNeg, Nat.reduceAdd, Nat.reduceMul, Nat.reduceSub, reduceCtorEq, h1]
  refine call_eq (May_all s o.who o.rcd.cats hs) ?_
  have hc := (chkRec_iff.1 h1).2.1
  rw [if_pos hc]
  by_cases h2 : sErr s o.who = 0
  ·rw [if_pos h2]
   by_cases h3 : sMay s o.who o.rcd.cats = 0
   ·rw [if_pos h3, decide_eq_true h3]
    simp (decide := true) (maxSteps := 4000000) -implicitDefEqProofs only [S0, ↓reduceIte, Int.reduceAdd, Int.reduceSub, Int.reduceToNat, Int.reduceNeg, Nat.reduceAdd, Nat.reduceMul, Nat.reduceSub, reduceCtorEq]
    refine call_eq (Put_ok s.l o.rcd) ?_
    by_cases h4 : putE s.l o.rcd = 0
    ·rw [if_pos h4, if_pos h4]
     simp (decide := true) (maxSteps := 4000000) -implicitDefEqProofs only [S0, ↓reduceIte, Int.reduceAdd, Int.reduceSub, Int.reduceToNat, Int.reduceNeg, Nat.reduceAdd, Nat.reduceMul, Nat.reduceSub, reduceCtorEq, h4, tdE, Option.getD_some]
    ·rw [if_neg h4, if_neg h4]
     simp (decide := true) (maxSteps := 4000000) -implicitDefEqProofs only [S0, ↓reduceIte, Int.reduceAdd, Int.reduceSub, Int.reduceToNat, Int.reduceNeg, Nat.reduceAdd, Nat.reduceMul, Nat.reduceSub, reduceCtorEq, h4, tdE, Option.getD_some]
   ·rw [if_neg h3, decide_eq_false h3]
    have e6 : sMay s o.who o.rcd.cats = 6 := by
     unfold sMay at h3 ⊢
     rw [if_pos h2, if_pos hc] at h3 ⊢
     split
     ·rename_i g; rw [if_pos g] at h3; exact absurd rfl h3
     ·rfl
    simp (decide := true) (maxSteps := 4000000) -implicitDefEqProofs only [S0, ↓reduceIte, Int.reduceAdd, Int.reduceSub, Int.reduceToNat, Int.reduceNeg, Nat.reduceAdd, Nat.reduceMul, Nat.reduceSub, reduceCtorEq, e6, tdE, Option.getD_some]
  ·have e6 : sMay s o.who o.rcd.cats = sErr s o.who := by unfold sMay; rw [if_neg h2]
   have h2' := h2
   unfold sErr at h2'
   rw [e6, if_neg h2, if_neg h2]
   simp (decide := true) (maxSteps := 4000000) -implicitDefEqProofs only [S0, ↓reduceIte, Int.reduceAdd, Int.reduceSub, Int.reduceToNat, Int.reduceNeg, Nat.reduceAdd, Nat.reduceMul, Nat.reduceSub, reduceCtorEq, h2, h2', sErr, tdE, Option.getD_some]
 ·rw [if_neg h1]
  simp (decide := true) (maxSteps := 4000000) -implicitDefEqProofs only [S0, ↓reduceIte, Int.reduceAdd, Int.reduceSub, Int.reduceToNat, Int.reduceNeg, Nat.reduceAdd, Nat.reduceMul, Nat.reduceSub, reduceCtorEq, h1, tdE, Option.getD_some]
theorem srvCut_ok {s : Sv} (hs : svOk s) (o : OpS) : OkH Try.prog 23 [.ptr (.e 0) 0 0, opV o] (svH s) (I (doCut s o).2.code) (svH' (doCut s o).1 0) := by
 refine OkH.of_wp (rs := [.tmp 4]) (n := 50) [] Try.func23 rfl rfl rfl (by simp) fo (by kernel_rfl) ?_
 unfold doCut
 simp (decide := true) (maxSteps := 4000000) -implicitDefEqProofs only [S0, ↓reduceIte, Int.reduceAdd, Int.reduceSub, Int.reduceToNat, Int.reduceNeg, Nat.reduceAdd, Nat.reduceMul, Nat.reduceSub, reduceCtorEq]
 refine call_eq (May_all s o.who o.rcd.cats hs) ?_
 by_cases h2 : sErr s o.who = 0
 ·rw [if_pos h2]
  by_cases hc : 0 ≤ o.rcd.cats ∧ o.rcd.cats < 256
  ·rw [if_pos hc]
   by_cases h3 : sMay s o.who o.rcd.cats = 0
   ·rw [if_pos h3, decide_eq_true h3]
    simp (decide := true) (maxSteps := 4000000) -implicitDefEqProofs only [S0, ↓reduceIte, Int.reduceAdd, Int.reduceSub, Int.reduceToNat, Int.reduceNeg, Nat.reduceAdd, Nat.reduceMul, Nat.reduceSub, reduceCtorEq]
    refine call_eq (Cut_ok s.l o.id o.rcd.cats) ?_
    by_cases h4 : cutE s.l o.id o.rcd.cats = 0
    ·rw [if_pos h4, if_pos h4]
     simp (decide := true) (maxSteps := 4000000) -implicitDefEqProofs only [S0, ↓reduceIte, Int.reduceAdd, Int.reduceSub, Int.reduceToNat, Int.reduceNeg, Nat.reduceAdd, Nat.reduceMul, Nat.reduceSub, reduceCtorEq, h4, tdE, Option.getD_some]
    ·rw [if_neg h4, if_neg h4]
     simp (decide := true) (maxSteps := 4000000) -implicitDefEqProofs only [S0, ↓reduceIte, Int.reduceAdd, Int.reduceSub, Int.reduceToNat, Int.reduceNeg, Nat.reduceAdd, Nat.reduceMul, Nat.reduceSub, reduceCtorEq, h4, tdE, Option.getD_some]
   ·rw [if_neg h3, decide_eq_false h3]
    have e6 : sMay s o.who o.rcd.cats = 6 := by
     unfold sMay at h3 ⊢
     rw [if_pos h2, if_pos hc] at h3 ⊢
     split
     ·rename_i g; rw [if_pos g] at h3; exact absurd rfl h3
     ·rfl
    simp (decide := true) (maxSteps := 4000000) -implicitDefEqProofs only [S0, ↓reduceIte, Int.reduceAdd, Int.reduceSub, Int.reduceToNat, Int.reduceNeg, Nat.reduceAdd, Nat.reduceMul, Nat.reduceSub, reduceCtorEq, e6, tdE, Option.getD_some]
  ·have e6 : sMay s o.who o.rcd.cats = 1 := by unfold sMay; rw [if_pos h2, if_neg hc]
   rw [if_neg hc, e6]
   simp (decide := true) (maxSteps := 4000000) -implicitDefEqProofs only [S0, ↓reduceIte, Int.reduceAdd, Int.reduceSub, Int.reduceToNat, Int.reduceNeg, Nat.reduceAdd, Nat.reduceMul, Nat.reduceSub, reduceCtorEq, tdE, Option.getD_some]
 ·have e6 : sMay s o.who o.rcd.cats = sErr s o.who := by unfold sMay; rw [if_neg h2]
  have h2' := h2
  unfold sErr at h2'
  rw [e6, if_neg h2, if_neg h2]
  simp (decide := true) (maxSteps := 4000000) -implicitDefEqProofs only [S0, ↓reduceIte, Int.reduceAdd, Int.reduceSub, Int.reduceToNat, Int.reduceNeg, Nat.reduceAdd, Nat.reduceMul, Nat.reduceSub, reduceCtorEq, h2, h2', sErr, tdE, Option.getD_some]
theorem srvOne_ok {l : List Vn} (h : chkSt l = 0) (id : ByteArray) : Ok Try.prog 27 [vers l, S id] (.tup [vers (oneG l id).vs, I (oneG l id).code]) := by
 refine Ok.of_wp (rs := [.tmp 4, .tmp 5]) (n := 20) Try.func27 rfl rfl rfl (by simp) fo (by kernel_rfl) ?_
 unfold oneG
 simp (decide := true) (maxSteps := 4000000) -implicitDefEqProofs only [S0, ↓reduceIte, Int.reduceAdd, Int.reduceSub, Int.reduceToNat, Int.reduceNeg, Nat.reduceAdd, Nat.reduceMul, Nat.reduceSub, reduceCtorEq]
 refine call_eq (Get_okS h id) ?_
 cases e : getN l id with
 | none => simp (decide := true) (maxSteps := 4000000) -implicitDefEqProofs only [S0, ↓reduceIte, Int.reduceAdd, Int.reduceSub, Int.reduceToNat, Int.reduceNeg, Nat.reduceAdd, Nat.reduceMul, Nat.reduceSub, reduceCtorEq, e, tdE, Option.getD_some]
 | some r => simp (decide := true) (maxSteps := 4000000) -implicitDefEqProofs only [S0, ↓reduceIte, Int.reduceAdd, Int.reduceSub, Int.reduceToNat, Int.reduceNeg, Nat.reduceAdd, Nat.reduceMul, Nat.reduceSub, reduceCtorEq, e, Option.getD_some]; try rfl
theorem cloneNts_ok (l : List Nt) (hl : l.length ≤ 1000000) : OkH Try.prog 25 [.own (.e 0) 0 4 0 l.length] [.row 77 4 none (l.map ntC)] (.own (.e 1) 1 4 0 l.length) [(0, .row 77 4 none (l.map ntC)), (1, .row 77 4 none (l.map ntC))] := by
 refine OkH.of_wpX (rs := [.tmp 2]) (n := 8) Try.func25 rfl rfl rfl (by simp) fo (by kernel_rfl) ?_
 simp (decide := true) (maxSteps := 4000000) -implicitDefEqProofs only [S0, ↓reduceIte, Int.reduceAdd, Int.reduceSub, Int.reduceToNat, Int.reduceNeg, Nat.reduceAdd, Nat.reduceMul, Nat.reduceSub, reduceCtorEq]
 refine ⟨fun h => ⟨[none], ?_⟩, by rw [List.length_take, List.length_map]; omega, ⟨[some (.l 5)], ?_⟩⟩
 ·obtain rfl := List.eq_nil_of_length_eq_zero h
  simp (decide := true) (maxSteps := 4000000) -implicitDefEqProofs only [S0, ↓reduceIte, Int.reduceAdd, Int.reduceSub, Int.reduceToNat, Int.reduceNeg, Nat.reduceAdd, Nat.reduceMul, Nat.reduceSub, reduceCtorEq]
 ·simp (decide := true) (maxSteps := 4000000) -implicitDefEqProofs only [S0, ↓reduceIte, Int.reduceAdd, Int.reduceSub, Int.reduceToNat, Int.reduceNeg, Nat.reduceAdd, Nat.reduceMul, Nat.reduceSub, reduceCtorEq, tk1]
def vN (s : Sv) (o : OpS) : Nat := if sErr s o.who = 0 ∧ s.notes.length ≠ 60 ∧ (oneG s.l o.id).code = 0 then 1 else 0
theorem srvNeed_ok {s : Sv} (hs : svOk s) (o : OpS) : OkH Try.prog 24 [.ptr (.e 0) 0 0, opV o] (svH s) (.tup [vers (doNeed s o).2.vs, I (doNeed s o).2.code]) (svH' (doNeed s o).1 (vN s o)) := by
 refine OkH.of_wp (rs := [.tmp 4, .tmp 5]) (n := 61) [] Try.func24 rfl rfl rfl (by simp) fo (by kernel_rfl) ?_
 unfold doNeed vN
 have hn := hs.2.2.2
 simp (decide := true) (maxSteps := 4000000) -implicitDefEqProofs only [S0, ↓reduceIte, Int.reduceAdd, Int.reduceSub, Int.reduceToNat, Int.reduceNeg, Nat.reduceAdd, Nat.reduceMul, Nat.reduceSub, reduceCtorEq]
 by_cases h2 : sErr s o.who = 0
 ·have h' := h2
  unfold sErr at h'
  obtain ⟨g1, g2, g3⟩ := seesE_zero.1 h'
  refine call_eq (Sees_ok' g1 g2 g3) ?_
  by_cases h3 : s.notes.length = 60
  ·have h3' : (s.notes.length : Int) = 60 := by omega
   simp (decide := true) (maxSteps := 4000000) -implicitDefEqProofs only [S0, ↓reduceIte, Int.reduceAdd, Int.reduceSub, Int.reduceToNat, Int.reduceNeg, Nat.reduceAdd, Nat.reduceMul, Nat.reduceSub, reduceCtorEq, h2, h3, h3', tdE, Option.getD_some]
  ·have h3' : ¬ (s.notes.length : Int) = 60 := by omega
   simp (decide := true) (maxSteps := 4000000) -implicitDefEqProofs only [S0, ↓reduceIte, Int.reduceAdd, Int.reduceSub, Int.reduceToNat, Int.reduceNeg, Nat.reduceAdd, Nat.reduceMul, Nat.reduceSub, reduceCtorEq, h2, h3, h3']
   refine call_eq (srvOne_ok hs.2.2.1 o.id) ?_
   by_cases h4 : (oneG s.l o.id).code = 0
   ·simp (decide := true) (maxSteps := 4000000) -implicitDefEqProofs only [S0, ↓reduceIte, Int.reduceAdd, Int.reduceSub, Int.reduceToNat, Int.reduceNeg, Nat.reduceAdd, Nat.reduceMul, Nat.reduceSub, reduceCtorEq, h4, tk1, Option.getD_some]
    exact ⟨by omega, by rw [List.map_append]; exact List.prefix_rfl⟩
   ·simp (decide := true) (maxSteps := 4000000) -implicitDefEqProofs only [S0, ↓reduceIte, Int.reduceAdd, Int.reduceSub, Int.reduceToNat, Int.reduceNeg, Nat.reduceAdd, Nat.reduceMul, Nat.reduceSub, reduceCtorEq, h4, Option.getD_some]
 ·have h2' := h2
  unfold sErr at h2'
  refine call_eq (Sees_bad h2') ?_
  simp (decide := true) (maxSteps := 4000000) -implicitDefEqProofs only [S0, ↓reduceIte, Int.reduceAdd, Int.reduceSub, Int.reduceToNat, Int.reduceNeg, Nat.reduceAdd, Nat.reduceMul, Nat.reduceSub, reduceCtorEq, h2, h2', sErr, tdE, Option.getD_some]
theorem Hist_okV {l : List Vn} (h : chkSt l = 0) (id : ByteArray) : Ok Try.prog 28 [vers l, S id] (.tup [vers (histL id l), I (if (histL id l).length = 0 then 4 else 0)]) := by
 have := Hist_ok l id
 rwa [histE, if_pos h, if_pos h] at this
def vD (s : Sv) (o : OpS) : Nat := if o.kind = 7 then vN s o else 0
set_option maxHeartbeats 4000000 in
theorem srvDo_ok {s : Sv} (hs : svOk s) (o : OpS) : OkH Try.prog 7 [.ptr (.e 0) 0 0, opV o] (svH s) (tdV (doS s o).2) (svH' (doS s o).1 (vD s o)) := by
 refine OkH.of_wp (rs := [.cell 4 44]) (n := 140) [] Try.func7 rfl rfl rfl (by simp) fo (by kernel_rfl) ?_
 unfold doS vD
 have hn := hs.2.2.2
 simp (decide := true) (maxSteps := 4000000) -implicitDefEqProofs only [S0, ↓reduceIte, Int.reduceAdd, Int.reduceSub, Int.reduceToNat, Int.reduceNeg, Nat.reduceAdd, Nat.reduceMul, Nat.reduceSub, reduceCtorEq]
 by_cases k1 : o.kind = 1
 ·simp (decide := true) (maxSteps := 4000000) -implicitDefEqProofs only [S0, ↓reduceIte, Int.reduceAdd, Int.reduceSub, Int.reduceToNat, Int.reduceNeg, Nat.reduceAdd, Nat.reduceMul, Nat.reduceSub, reduceCtorEq, k1]
  refine call_eq (chkRules_ok o.rs) ?_
  by_cases h : chkRs o.rs = 0
  ·have hl := (chkRs_of h).1
   simp (decide := true) (maxSteps := 4000000) -implicitDefEqProofs only [S0, ↓reduceIte, Int.reduceAdd, Int.reduceSub, Int.reduceToNat, Int.reduceNeg, Nat.reduceAdd, Nat.reduceMul, Nat.reduceSub, reduceCtorEq, h]
   refine callH (cloneRules_ok o.rs (by omega)) [.l 25] ?_
   simp (decide := true) (maxSteps := 4000000) -implicitDefEqProofs only [S0, ↓reduceIte, Int.reduceAdd, Int.reduceSub, Int.reduceToNat, Int.reduceNeg, Nat.reduceAdd, Nat.reduceMul, Nat.reduceSub, reduceCtorEq, k1, h, tdE, tk1, Option.getD_some]
  ·simp (decide := true) (maxSteps := 4000000) -implicitDefEqProofs only [S0, ↓reduceIte, Int.reduceAdd, Int.reduceSub, Int.reduceToNat, Int.reduceNeg, Nat.reduceAdd, Nat.reduceMul, Nat.reduceSub, reduceCtorEq, h, k1, tdE, Option.getD_some]
 by_cases k2 : o.kind = 2
 ·simp (decide := true) (maxSteps := 4000000) -implicitDefEqProofs only [S0, ↓reduceIte, Int.reduceAdd, Int.reduceSub, Int.reduceToNat, Int.reduceNeg, Nat.reduceAdd, Nat.reduceMul, Nat.reduceSub, reduceCtorEq, k2]
  obtain ⟨c, e⟩ : ∃ c, (doPut s o).2 = tdE c := ⟨_, doPut_td s o⟩
  refine callH (srvPut_ok hs o) [.e 0, .e 1] ?_
  rw [e]
  simp (decide := true) (maxSteps := 4000000) -implicitDefEqProofs only [S0, ↓reduceIte, Int.reduceAdd, Int.reduceSub, Int.reduceToNat, Int.reduceNeg, Nat.reduceAdd, Nat.reduceMul, Nat.reduceSub, reduceCtorEq, k2, e, tdE, Option.getD_some]
 by_cases k3 : o.kind = 3
 ·simp (decide := true) (maxSteps := 4000000) -implicitDefEqProofs only [S0, ↓reduceIte, Int.reduceAdd, Int.reduceSub, Int.reduceToNat, Int.reduceNeg, Nat.reduceAdd, Nat.reduceMul, Nat.reduceSub, reduceCtorEq, k3]
  obtain ⟨c, e⟩ : ∃ c, (doCut s o).2 = tdE c := ⟨_, doCut_td s o⟩
  refine callH (srvCut_ok hs o) [.e 0, .e 1] ?_
  rw [e]
  simp (decide := true) (maxSteps := 4000000) -implicitDefEqProofs only [S0, ↓reduceIte, Int.reduceAdd, Int.reduceSub, Int.reduceToNat, Int.reduceNeg, Nat.reduceAdd, Nat.reduceMul, Nat.reduceSub, reduceCtorEq, k3, e, tdE, Option.getD_some]
 by_cases k7 : o.kind = 7
 ·simp (decide := true) (maxSteps := 4000000) -implicitDefEqProofs only [S0, ↓reduceIte, Int.reduceAdd, Int.reduceSub, Int.reduceToNat, Int.reduceNeg, Nat.reduceAdd, Nat.reduceMul, Nat.reduceSub, reduceCtorEq, k7]
  refine callH (srvNeed_ok hs o) [.e 0, .e 1] ?_
  obtain ⟨e1, e2⟩ := doNeed_ids s o
  simp (decide := true) (maxSteps := 4000000) -implicitDefEqProofs only [S0, ↓reduceIte, Int.reduceAdd, Int.reduceSub, Int.reduceToNat, Int.reduceNeg, Nat.reduceAdd, Nat.reduceMul, Nat.reduceSub, reduceCtorEq, k7, e1, e2, Option.getD_some]
 by_cases k8 : o.kind = 8
 ·unfold doAudit
  simp (decide := true) (maxSteps := 4000000) -implicitDefEqProofs only [S0, ↓reduceIte, Int.reduceAdd, Int.reduceSub, Int.reduceToNat, Int.reduceNeg, Nat.reduceAdd, Nat.reduceMul, Nat.reduceSub, reduceCtorEq, k8]
  by_cases h2 : sErr s o.who = 0
  ·have h' := h2
   unfold sErr at h'
   obtain ⟨g1, g2, g3⟩ := seesE_zero.1 h'
   refine call_eq (Sees_ok' g1 g2 g3) ?_
   by_cases h3 : sSees s o.who = 255
   ·have h3' : seesF (fitsW s.up o.who) s.rs = 255 := h3
    simp (decide := true) (maxSteps := 4000000) -implicitDefEqProofs only [S0, ↓reduceIte, Int.reduceAdd, Int.reduceSub, Int.reduceToNat, Int.reduceNeg, Nat.reduceAdd, Nat.reduceMul, Nat.reduceSub, reduceCtorEq, h3']
    refine callH (cloneNts_ok s.notes (by omega)) [.e 1, .l 80] ?_
    simp (decide := true) (maxSteps := 4000000) -implicitDefEqProofs only [S0, ↓reduceIte, Int.reduceAdd, Int.reduceSub, Int.reduceToNat, Int.reduceNeg, Nat.reduceAdd, Nat.reduceMul, Nat.reduceSub, reduceCtorEq, k8, h2, h3, tk1, Option.getD_some]
   ·have h3' : ¬ ((seesF (fitsW s.up o.who) s.rs : Nat) : Int) = 255 := fun e => h3 (by unfold sSees; omega)
    simp (decide := true) (maxSteps := 4000000) -implicitDefEqProofs only [S0, ↓reduceIte, Int.reduceAdd, Int.reduceSub, Int.reduceToNat, Int.reduceNeg, Nat.reduceAdd, Nat.reduceMul, Nat.reduceSub, reduceCtorEq, h3', h3, h2, k8, tdE, Option.getD_some]
  ·have h2' := h2
   unfold sErr at h2'
   refine call_eq (Sees_bad h2') ?_
   simp (decide := true) (maxSteps := 4000000) -implicitDefEqProofs only [S0, ↓reduceIte, Int.reduceAdd, Int.reduceSub, Int.reduceToNat, Int.reduceNeg, Nat.reduceAdd, Nat.reduceMul, Nat.reduceSub, reduceCtorEq, h2, h2', sErr, k8, tdE, Option.getD_some]
 by_cases k : o.kind = 4 ∨ o.kind = 5 ∨ o.kind = 6
 ·have hp := chkSt_part (a := sSees s o.who) hs.2.2.1
  unfold doAsk
  rcases k with k | k | k
  ·simp (decide := true) (maxSteps := 4000000) -implicitDefEqProofs only [S0, ↓reduceIte, Int.reduceAdd, Int.reduceSub, Int.reduceToNat, Int.reduceNeg, Nat.reduceAdd, Nat.reduceMul, Nat.reduceSub, reduceCtorEq, k]
   refine callH (srvPart_ok hs o.who) [.e 0, .e 1] ?_
   by_cases h2 : sErr s o.who = 0
   ·simp (decide := true) (maxSteps := 4000000) -implicitDefEqProofs only [S0, ↓reduceIte, Int.reduceAdd, Int.reduceSub, Int.reduceToNat, Int.reduceNeg, Nat.reduceAdd, Nat.reduceMul, Nat.reduceSub, reduceCtorEq, h2, k]
    refine call_eq (srvOne_ok hp o.id) ?_
    obtain ⟨e1, e2⟩ := oneG_ids (l := partL (sSees s o.who) s.l) (id := o.id)
    simp (decide := true) (maxSteps := 4000000) -implicitDefEqProofs only [S0, ↓reduceIte, Int.reduceAdd, Int.reduceSub, Int.reduceToNat, Int.reduceNeg, Nat.reduceAdd, Nat.reduceMul, Nat.reduceSub, reduceCtorEq, h2, k, e1, e2, Option.getD_some]
   ·simp (decide := true) (maxSteps := 4000000) -implicitDefEqProofs only [S0, ↓reduceIte, Int.reduceAdd, Int.reduceSub, Int.reduceToNat, Int.reduceNeg, Nat.reduceAdd, Nat.reduceMul, Nat.reduceSub, reduceCtorEq, h2, k, tdE, Option.getD_some]
  ·simp (decide := true) (maxSteps := 4000000) -implicitDefEqProofs only [S0, ↓reduceIte, Int.reduceAdd, Int.reduceSub, Int.reduceToNat, Int.reduceNeg, Nat.reduceAdd, Nat.reduceMul, Nat.reduceSub, reduceCtorEq, k]
   refine callH (srvPart_ok hs o.who) [.e 0, .e 1] ?_
   by_cases h2 : sErr s o.who = 0
   ·simp (decide := true) (maxSteps := 4000000) -implicitDefEqProofs only [S0, ↓reduceIte, Int.reduceAdd, Int.reduceSub, Int.reduceToNat, Int.reduceNeg, Nat.reduceAdd, Nat.reduceMul, Nat.reduceSub, reduceCtorEq, h2, k]
    refine call_eq (By_okS hp o.fd) ?_
    by_cases h3 : byOk o.fd = true
    ·simp (decide := true) (maxSteps := 4000000) -implicitDefEqProofs only [S0, ↓reduceIte, Int.reduceAdd, Int.reduceSub, Int.reduceToNat, Int.reduceNeg, Nat.reduceAdd, Nat.reduceMul, Nat.reduceSub, reduceCtorEq, h2, h3, k, tdE, Option.getD_some]
    ·simp (decide := true) (maxSteps := 4000000) -implicitDefEqProofs only [S0, ↓reduceIte, Int.reduceAdd, Int.reduceSub, Int.reduceToNat, Int.reduceNeg, Nat.reduceAdd, Nat.reduceMul, Nat.reduceSub, reduceCtorEq, h2, h3, k, tdE, Option.getD_some]; try rfl
   ·simp (decide := true) (maxSteps := 4000000) -implicitDefEqProofs only [S0, ↓reduceIte, Int.reduceAdd, Int.reduceSub, Int.reduceToNat, Int.reduceNeg, Nat.reduceAdd, Nat.reduceMul, Nat.reduceSub, reduceCtorEq, h2, k, tdE, Option.getD_some]
  ·simp (decide := true) (maxSteps := 4000000) -implicitDefEqProofs only [S0, ↓reduceIte, Int.reduceAdd, Int.reduceSub, Int.reduceToNat, Int.reduceNeg, Nat.reduceAdd, Nat.reduceMul, Nat.reduceSub, reduceCtorEq, k]
   refine callH (srvPart_ok hs o.who) [.e 0, .e 1] ?_
   by_cases h2 : sErr s o.who = 0
   ·simp (decide := true) (maxSteps := 4000000) -implicitDefEqProofs only [S0, ↓reduceIte, Int.reduceAdd, Int.reduceSub, Int.reduceToNat, Int.reduceNeg, Nat.reduceAdd, Nat.reduceMul, Nat.reduceSub, reduceCtorEq, h2, k]
    refine call_eq (Hist_okV hp o.id) ?_
    by_cases h3 : (histL o.id (partL (sSees s o.who) s.l)).length = 0
    ·have h4 := List.eq_nil_of_length_eq_zero h3
     simp (decide := true) (maxSteps := 4000000) -implicitDefEqProofs only [S0, ↓reduceIte, Int.reduceAdd, Int.reduceSub, Int.reduceToNat, Int.reduceNeg, Nat.reduceAdd, Nat.reduceMul, Nat.reduceSub, reduceCtorEq, h2, h3, h4, k, tdE, Option.getD_some]; try rfl
    ·simp (decide := true) (maxSteps := 4000000) -implicitDefEqProofs only [S0, ↓reduceIte, Int.reduceAdd, Int.reduceSub, Int.reduceToNat, Int.reduceNeg, Nat.reduceAdd, Nat.reduceMul, Nat.reduceSub, reduceCtorEq, h2, h3, k, tdE, Option.getD_some]
   ·simp (decide := true) (maxSteps := 4000000) -implicitDefEqProofs only [S0, ↓reduceIte, Int.reduceAdd, Int.reduceSub, Int.reduceToNat, Int.reduceNeg, Nat.reduceAdd, Nat.reduceMul, Nat.reduceSub, reduceCtorEq, h2, k, tdE, Option.getD_some]
 ·have k4 : ¬ o.kind = 4 := fun e => k (.inl e)
  have k5 : ¬ o.kind = 5 := fun e => k (.inr (.inl e))
  have k6 : ¬ o.kind = 6 := fun e => k (.inr (.inr e))
  simp (decide := true) (maxSteps := 4000000) -implicitDefEqProofs only [S0, ↓reduceIte, Int.reduceAdd, Int.reduceSub, Int.reduceToNat, Int.reduceNeg, Nat.reduceAdd, Nat.reduceMul, Nat.reduceSub, reduceCtorEq, k1, k2, k3, k4, k5, k6, k7, k8, tdE, Option.getD_some]
theorem srvRules_ok {s : Sv} (hs : svOk s) : OkH Try.prog 10 [.ptr (.e 0) 0 0] (svH s) (rules s.rs) (svH' s 0) := by
 have hl := (chkRs_of hs.2.1).1
 refine OkH.of_wp (rs := [.tmp 2]) (n := 8) [] Try.func10 rfl rfl rfl (by simp) fo (by kernel_rfl) ?_
 simp (decide := true) (maxSteps := 4000000) -implicitDefEqProofs only [S0, ↓reduceIte, Int.reduceAdd, Int.reduceSub, Int.reduceToNat, Int.reduceNeg, Nat.reduceAdd, Nat.reduceMul, Nat.reduceSub, reduceCtorEq]
 refine callH (cloneRules_ok s.rs (by omega)) [.l 7] ?_
 simp (decide := true) (maxSteps := 4000000) -implicitDefEqProofs only [S0, ↓reduceIte, Int.reduceAdd, Int.reduceSub, Int.reduceToNat, Int.reduceNeg, Nat.reduceAdd, Nat.reduceMul, Nat.reduceSub, reduceCtorEq, tk1, Option.getD_some]
theorem srvVersions_ok {s : Sv} (hs : svOk s) : OkH Try.prog 12 [.ptr (.e 0) 0 0] (svH s) (vers s.l) (svH' s 0) := by
 have hl := (chkSt_len hs.2.2.1).1
 refine OkH.of_wp (rs := [.tmp 2]) (n := 8) [] Try.func12 rfl rfl rfl (by simp) fo (by kernel_rfl) ?_
 simp (decide := true) (maxSteps := 4000000) -implicitDefEqProofs only [S0, ↓reduceIte, Int.reduceAdd, Int.reduceSub, Int.reduceToNat, Int.reduceNeg, Nat.reduceAdd, Nat.reduceMul, Nat.reduceSub, reduceCtorEq]
 refine call_eq (stCopied_ok (by omega) (chkSt_lens hs.2.2.1)) ?_
 simp (decide := true) (maxSteps := 4000000) -implicitDefEqProofs only [S0, ↓reduceIte, Int.reduceAdd, Int.reduceSub, Int.reduceToNat, Int.reduceNeg, Nat.reduceAdd, Nat.reduceMul, Nat.reduceSub, reduceCtorEq, Option.getD_some]
end Go.Proofs.Ytpdenloeacaadaa.E
