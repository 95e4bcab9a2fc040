/- Walks: ServerLog. No conditions. -/
import Derived.Test.YtonolfpnidaflaaGreatDoorSrvB
import Derived.Test.YtonolfpnidaflaaGreatDoorAskd
import Derived.Test.YtonolfpnidaflaaGreatDoorSrvQ
import Derived.Test.YtonolfpnidaflaaGreatDoorLogAW
import Derived.Test.YtonolfpnidaflaaGreatDoorSlgL
namespace Go.Proofs.YtonolfpnidaflaaGreatDoor.E
open Go
set_option linter.unusedSimpArgs false
set_option linter.unusedVariables false
set_option linter.unusedSectionVars false
set_option maxRecDepth 20000
set_option maxHeartbeats 4000000
def slgI (q : List OpS) (i : Nat) (W : List OpS) : Prop := i ≤ q.length ∧ W.length ≤ i ∧ (∃ n, runL sv0 (q.take i) = wNts (runL sv0 (W.map plainO)) n) ∧ okRun sv0 (W.map plainO) ∧ (∀ o ∈ W, chkOp o = 0) ∧ (logL W).length ≤ 1300 * W.length
theorem slg_no {q : List OpS} {i : Nat} {W : List OpS} {o : OpS} (h : slgI q i W) (ho : q[i]? = some o) (hk : ¬ (o.kind = 1 ∨ o.kind = 2 ∨ o.kind = 3) ∨ (doS (runL sv0 (q.take i)) o).2.code ≠ 0) : slgI q (i + 1) W := by
 obtain ⟨h1, h2, ⟨n, h3⟩, h4, h5, h6⟩ := h
 have hl := (List.getElem?_eq_some_iff.1 ho).1
 refine ⟨by omega, by omega, ?_, h4, h5, h6⟩
 rw [run_snoc ho]
 exact slg_skip h3 hk
theorem slg_yes {q : List OpS} {i : Nat} {W : List OpS} {o : OpS} (h : slgI q i W) (ho : q[i]? = some o) (hk : o.kind = 1 ∨ o.kind = 2 ∨ o.kind = 3) (hc : (doS (runL sv0 (q.take i)) o).2.code = 0) (hw : chkOp o = 0) : slgI q (i + 1) (W ++ [o]) := by
 obtain ⟨h1, h2, ⟨n, h3⟩, h4, h5, h6⟩ := h
 have hl := (List.getElem?_eq_some_iff.1 ho).1
 obtain ⟨k1, k2⟩ := slg_step h3 h4 hk hc
 refine ⟨by omega, by simp; omega, ?_, k2, ?_, ?_⟩
 ·rw [run_snoc ho]; exact k1
 ·intro x hx
  rcases List.mem_append.1 hx with hx | hx
  ·exact h5 x hx
  ·rw [List.mem_singleton] at hx; subst hx; exact hw
 ·have := lineL_len hw
  have e : (logL (W ++ [o])).length = (logL W).length + (lineL o).length := by rw [logL_app]; simp [logL]
  rw [e, List.length_append, List.length_singleton]
  omega
theorem ServerLog_ok (l : List (List Int)) : Ok Tryz.prog 3 [.list 1 (l.map fun c => [ints c])] (B true) := by
 refine Ok.of_wp (rs := [.tmp 2]) (n := 97) Tryz.func3 rfl rfl rfl (by simp) fo (by kernel_rfl) ?_
 simp (decide := true) (maxSteps := 4000000) -implicitDefEqProofs only [S0, ↓reduceIte, Int.reduceAdd, Int.reduceSub, Int.reduceToNat, Int.reduceNeg, Nat.reduceAdd, Nat.reduceMul, Nat.reduceSub, reduceCtorEq]
 refine call_eq serverBegun_ok ?_
 simp (decide := true) (maxSteps := 4000000) -implicitDefEqProofs only [S0, ↓reduceIte, Int.reduceAdd, Int.reduceSub, Int.reduceToNat, Int.reduceNeg, Nat.reduceAdd, Nat.reduceMul, Nat.reduceSub, reduceCtorEq]
 refine callH ruled_ok [.l 20, .m 20 1] ?_
 simp (decide := true) (maxSteps := 4000000) -implicitDefEqProofs only [S0, ↓reduceIte, Int.reduceAdd, Int.reduceSub, Int.reduceToNat, Int.reduceNeg, Nat.reduceAdd, Nat.reduceMul, Nat.reduceSub, reduceCtorEq]
 refine callH ruled_ok [.l 24, .m 24 1] ?_
 simp (decide := true) (maxSteps := 4000000) -implicitDefEqProofs only [S0, ↓reduceIte, Int.reduceAdd, Int.reduceSub, Int.reduceToNat, Int.reduceNeg, Nat.reduceAdd, Nat.reduceMul, Nat.reduceSub, reduceCtorEq]
 refine call_eq (asked_ok l) ?_
 have hq : (askL l).length ≤ 30 := askL_len l
 have hq2 : ∀ x ∈ askL l, whoOk3 x.who ∧ idOk x.id = true := fun x hx => ⟨askL_who hx, askL_id hx⟩
 generalize askL l = q at hq hq2
 simp (decide := true) (maxSteps := 4000000) -implicitDefEqProofs only [S0, ↓reduceIte, Int.reduceAdd, Int.reduceSub, Int.reduceToNat, Int.reduceNeg, Nat.reduceAdd, Nat.reduceMul, Nat.reduceSub, reduceCtorEq]
 refine ALoop.st [3, 5, 7, 34, 35, 36] (fun (p : Nat × List OpS) => [.ptr (.l 20) 1 0, .ptr (.l 24) 1 0, S (bs (logL p.2)), opsA q, I q.length, I p.1]) (fun p => [(.l 20, 1, .cells 86 (svAt (.m 20 1) 1 (runL sv0 (q.take p.1)))), (.m 20 1, 1, .row 93 4 none ((runL sv0 (q.take p.1)).notes.map ntC)), (.l 24, 1, .cells 86 (svAt (.m 24 1) 1 sv0)), (.m 24 1, 1, .row 93 4 none (sv0.notes.map ntC))]) (fun p => slgI q p.1 p.2) (fun p => q.length - p.1) [] (0, []) (by simp (decide := true) (maxSteps := 4000000) -implicitDefEqProofs only [S0, ↓reduceIte, Int.reduceAdd, Int.reduceSub, Int.reduceToNat, Int.reduceNeg, Nat.reduceAdd, Nat.reduceMul, Nat.reduceSub, reduceCtorEq]; try rfl) (by simp (decide := true) (maxSteps := 4000000) -implicitDefEqProofs only [S0, ↓reduceIte, Int.reduceAdd, Int.reduceSub, Int.reduceToNat, Int.reduceNeg, Nat.reduceAdd, Nat.reduceMul, Nat.reduceSub, reduceCtorEq, List.take_zero, run_nil, and_self]; try rfl) ⟨by omega, by simp, ⟨[], rfl⟩, trivial, by simp, by simp [logL]⟩ ?_
 rintro ⟨i, W⟩ hI
 simp only at hI
 by_cases h : (i : Int) < q.length
 ·obtain ⟨x, hx⟩ := lt_get (l := q) (i := i) (by omega)
  have hw := wr_add1 h (by omega)
  have hs := (runL_ok sv0_ok (q.take i)).1
  have hr := run_snoc (s := sv0) hx
  have hno := slg_no hI hx
  have hye := slg_yes hI hx
  obtain ⟨hx3, hxi⟩ := hq2 x (List.mem_of_getElem? hx)
  generalize runL sv0 (q.take i) = s at hs hr hno hye ⊢
  simp (decide := true) (maxSteps := 4000000) -implicitDefEqProofs only [S0, ↓reduceIte, Int.reduceAdd, Int.reduceSub, Int.reduceToNat, Int.reduceNeg, Nat.reduceAdd, Nat.reduceMul, Nat.reduceSub, reduceCtorEq, h, hx]
  refine callH (srvDo_ok hs x) [.l 20, .m 20 1] ?_
  by_cases hc : (doS s x).2.code = 0
  ·simp (decide := true) (maxSteps := 4000000) -implicitDefEqProofs only [S0, ↓reduceIte, Int.reduceAdd, Int.reduceSub, Int.reduceToNat, Int.reduceNeg, Nat.reduceAdd, Nat.reduceMul, Nat.reduceSub, reduceCtorEq, hc]
   refine call_eq (logWrite_ok x (whoOk_I hx3.1)) ?_
   by_cases hk : chkOp x = 0
   ·have hwr : writeL x = lineL x := if_pos hk
    have e1 : bs (logL W) ++ bs (lineL x) = bs (logL (W ++ [x])) := by rw [bs_app, logL_app]; simp [logL]
    have hxl := lineL_len hk
    obtain ⟨g1, g2, g3, g4, g5, g6⟩ := hI
    simp (decide := true) (maxSteps := 4000000) -implicitDefEqProofs only [S0, ↓reduceIte, Int.reduceAdd, Int.reduceSub, Int.reduceToNat, Int.reduceNeg, Nat.reduceAdd, Nat.reduceMul, Nat.reduceSub, reduceCtorEq, hk, hwr, e1, bs_size]
    refine ⟨by omega, ?_⟩
    exact Nxt.mk [] (i + 1, W ++ [x]) (by simp (decide := true) (maxSteps := 4000000) -implicitDefEqProofs only [S0, ↓reduceIte, Int.reduceAdd, Int.reduceSub, Int.reduceToNat, Int.reduceNeg, Nat.reduceAdd, Nat.reduceMul, Nat.reduceSub, reduceCtorEq, hw]) (by simp (decide := true) (maxSteps := 4000000) -implicitDefEqProofs only [S0, ↓reduceIte, Int.reduceAdd, Int.reduceSub, Int.reduceToNat, Int.reduceNeg, Nat.reduceAdd, Nat.reduceMul, Nat.reduceSub, reduceCtorEq, hr, or_true]) (hye (chk_kind hk) hc hk) (by simp only; omega)
   ·simp (decide := true) (maxSteps := 4000000) -implicitDefEqProofs only [S0, ↓reduceIte, Int.reduceAdd, Int.reduceSub, Int.reduceToNat, Int.reduceNeg, Nat.reduceAdd, Nat.reduceMul, Nat.reduceSub, reduceCtorEq, hk]
    exact Nxt.mk [] (i + 1, W) (by simp (decide := true) (maxSteps := 4000000) -implicitDefEqProofs only [S0, ↓reduceIte, Int.reduceAdd, Int.reduceSub, Int.reduceToNat, Int.reduceNeg, Nat.reduceAdd, Nat.reduceMul, Nat.reduceSub, reduceCtorEq, hw]) (by simp (decide := true) (maxSteps := 4000000) -implicitDefEqProofs only [S0, ↓reduceIte, Int.reduceAdd, Int.reduceSub, Int.reduceToNat, Int.reduceNeg, Nat.reduceAdd, Nat.reduceMul, Nat.reduceSub, reduceCtorEq, hr, or_true]) (hno (.inl fun k => hk (done_chk k hx3.1 (fun _ => hxi) hc))) (by simp only; omega)
  ·simp (decide := true) (maxSteps := 4000000) -implicitDefEqProofs only [S0, ↓reduceIte, Int.reduceAdd, Int.reduceSub, Int.reduceToNat, Int.reduceNeg, Nat.reduceAdd, Nat.reduceMul, Nat.reduceSub, reduceCtorEq, hc]
   exact Nxt.mk [] (i + 1, W) (by simp (decide := true) (maxSteps := 4000000) -implicitDefEqProofs only [S0, ↓reduceIte, Int.reduceAdd, Int.reduceSub, Int.reduceToNat, Int.reduceNeg, Nat.reduceAdd, Nat.reduceMul, Nat.reduceSub, reduceCtorEq, hw]) (by simp (decide := true) (maxSteps := 4000000) -implicitDefEqProofs only [S0, ↓reduceIte, Int.reduceAdd, Int.reduceSub, Int.reduceToNat, Int.reduceNeg, Nat.reduceAdd, Nat.reduceMul, Nat.reduceSub, reduceCtorEq, hr, or_true]) (hno (.inr hc)) (by simp only; omega)
 ·obtain ⟨h1, h2, ⟨n, h3⟩, h4, h5, h6⟩ := hI
  obtain rfl : i = q.length := by omega
  rw [List.take_of_length_le (Nat.le_refl _)] at h3 ⊢
  have hs := (runL_ok sv0_ok q).1
  have hsz : (bs (logL W)).size = (logL W).length := bs_size _
  by_cases hb : 20000 < (logL W).length
  ·have hb' : ((logL W).length : Int) > 20000 := by omega
   simp (decide := true) (maxSteps := 4000000) -implicitDefEqProofs only [S0, ↓reduceIte, Int.reduceAdd, Int.reduceSub, Int.reduceToNat, Int.reduceNeg, Nat.reduceAdd, Nat.reduceMul, Nat.reduceSub, reduceCtorEq, h, bs_size, hb']
  have hb' : ¬ ((logL W).length : Int) > 20000 := by omega
  have hall := allT_log h5 (by omega)
  have el : (runL sv0 q).l = (runL sv0 (W.map plainO)).l := by rw [h3]; rfl
  have er : (runL sv0 q).rs = (runL sv0 (W.map plainO)).rs := by rw [h3]; rfl
  generalize runL sv0 q = s at hs el er ⊢
  simp (decide := true) (maxSteps := 4000000) -implicitDefEqProofs only [S0, ↓reduceIte, Int.reduceAdd, Int.reduceSub, Int.reduceToNat, Int.reduceNeg, Nat.reduceAdd, Nat.reduceMul, Nat.reduceSub, reduceCtorEq, h, bs_size, hb']
  refine call_eq (logAll_ok (bs (logL W)) (by rw [bs_size]; omega)) ?_
  rw [bs_list, hall]
  have hWl : (W.map plainO).length ≤ 30 := by rw [List.length_map]; omega
  generalize W.map plainO = P at *
  simp (decide := true) (maxSteps := 4000000) -implicitDefEqProofs only [S0, ↓reduceIte, Int.reduceAdd, Int.reduceSub, Int.reduceToNat, Int.reduceNeg, Nat.reduceAdd, Nat.reduceMul, Nat.reduceSub, reduceCtorEq, bs_size]
  refine ALoop.st [3, 5, 73, 74, 75] (fun (j : Nat) => [.ptr (.l 20) 1 0, .ptr (.l 24) 1 0, opsA P, I P.length, I j]) (fun j => [(.l 20, 1, .cells 86 (svAt (.m 20 1) 1 s)), (.m 20 1, 1, .row 93 4 none (s.notes.map ntC)), (.l 24, 1, .cells 86 (svAt (.m 24 1) 1 (runL sv0 (P.take j)))), (.m 24 1, 1, .row 93 4 none ((runL sv0 (P.take j)).notes.map ntC))]) (fun j => j ≤ P.length) (fun j => P.length - j) [] 0 (by simp (decide := true) (maxSteps := 4000000) -implicitDefEqProofs only [S0, ↓reduceIte, Int.reduceAdd, Int.reduceSub, Int.reduceToNat, Int.reduceNeg, Nat.reduceAdd, Nat.reduceMul, Nat.reduceSub, reduceCtorEq]; try rfl) (by simp (decide := true) (maxSteps := 4000000) -implicitDefEqProofs only [S0, ↓reduceIte, Int.reduceAdd, Int.reduceSub, Int.reduceToNat, Int.reduceNeg, Nat.reduceAdd, Nat.reduceMul, Nat.reduceSub, reduceCtorEq, List.take_zero, run_nil, and_self]; try rfl) (by omega) ?_
  intro j hj
  by_cases g : (j : Int) < P.length
  ·obtain ⟨x, hx⟩ := lt_get (l := P) (i := j) (by omega)
   have hw := wr_add1 g (by omega)
   have hbk := (runL_ok sv0_ok (P.take j)).1
   have hr := run_snoc (s := sv0) hx
   have hc := okRun_get h4 hx
   generalize runL sv0 (P.take j) = b at hbk hr hc ⊢
   simp (decide := true) (maxSteps := 4000000) -implicitDefEqProofs only [S0, ↓reduceIte, Int.reduceAdd, Int.reduceSub, Int.reduceToNat, Int.reduceNeg, Nat.reduceAdd, Nat.reduceMul, Nat.reduceSub, reduceCtorEq, g, hx]
   refine callH (srvDo_ok hbk x) [.l 24, .m 24 1] ?_
   simp (decide := true) (maxSteps := 4000000) -implicitDefEqProofs only [S0, ↓reduceIte, Int.reduceAdd, Int.reduceSub, Int.reduceToNat, Int.reduceNeg, Nat.reduceAdd, Nat.reduceMul, Nat.reduceSub, reduceCtorEq, hc]
   exact Nxt.mk [] (j + 1) (by simp (decide := true) (maxSteps := 4000000) -implicitDefEqProofs only [S0, ↓reduceIte, Int.reduceAdd, Int.reduceSub, Int.reduceToNat, Int.reduceNeg, Nat.reduceAdd, Nat.reduceMul, Nat.reduceSub, reduceCtorEq, hw]) (by simp (decide := true) (maxSteps := 4000000) -implicitDefEqProofs only [S0, ↓reduceIte, Int.reduceAdd, Int.reduceSub, Int.reduceToNat, Int.reduceNeg, Nat.reduceAdd, Nat.reduceMul, Nat.reduceSub, reduceCtorEq, hr, or_true]) (by omega) (by omega)
  ·obtain rfl : j = P.length := by omega
   have hbk := (runL_ok sv0_ok P).1
   rw [List.take_of_length_le (Nat.le_refl _)]
   generalize runL sv0 P = b at hbk el er ⊢
   have hl := (chkSt_len hs.2.2.1).1
   have hl2 := (chkRs_of hs.2.1).1
   have c1 := SameSt_ok s.l b.l (by omega) (chkSt_lens hs.2.2.1)
   have c2 : ∀ r, r = s.rs → Ok Tryz.prog 16 [rules s.rs, rules r] (B true) := fun r e => by rw [e]; exact eqRules_ok s.rs (by omega)
   rw [decide_eq_true el] at c1
   simp (decide := true) (maxSteps := 4000000) -implicitDefEqProofs only [S0, ↓reduceIte, Int.reduceAdd, Int.reduceSub, Int.reduceToNat, Int.reduceNeg, Nat.reduceAdd, Nat.reduceMul, Nat.reduceSub, reduceCtorEq, g]
   refine callH (srvVersions_ok hs) [.l 20, .m 20 1] ?_
   simp (decide := true) (maxSteps := 4000000) -implicitDefEqProofs only [S0, ↓reduceIte, Int.reduceAdd, Int.reduceSub, Int.reduceToNat, Int.reduceNeg, Nat.reduceAdd, Nat.reduceMul, Nat.reduceSub, reduceCtorEq]
   refine callH (srvVersions_ok hbk) [.l 24, .m 24 1] ?_
   simp (decide := true) (maxSteps := 4000000) -implicitDefEqProofs only [S0, ↓reduceIte, Int.reduceAdd, Int.reduceSub, Int.reduceToNat, Int.reduceNeg, Nat.reduceAdd, Nat.reduceMul, Nat.reduceSub, reduceCtorEq]
   refine call_eq c1 ?_
   simp (decide := true) (maxSteps := 4000000) -implicitDefEqProofs only [S0, ↓reduceIte, Int.reduceAdd, Int.reduceSub, Int.reduceToNat, Int.reduceNeg, Nat.reduceAdd, Nat.reduceMul, Nat.reduceSub, reduceCtorEq]
   refine callH (srvRules_ok hs) [.l 20, .m 20 1] ?_
   simp (decide := true) (maxSteps := 4000000) -implicitDefEqProofs only [S0, ↓reduceIte, Int.reduceAdd, Int.reduceSub, Int.reduceToNat, Int.reduceNeg, Nat.reduceAdd, Nat.reduceMul, Nat.reduceSub, reduceCtorEq]
   refine callH (srvRules_ok hbk) [.l 24, .m 24 1] ?_
   simp (decide := true) (maxSteps := 4000000) -implicitDefEqProofs only [S0, ↓reduceIte, Int.reduceAdd, Int.reduceSub, Int.reduceToNat, Int.reduceNeg, Nat.reduceAdd, Nat.reduceMul, Nat.reduceSub, reduceCtorEq]
   refine call_eq (c2 _ er.symm) ?_
   simp (decide := true) (maxSteps := 4000000) -implicitDefEqProofs only [S0, ↓reduceIte, Int.reduceAdd, Int.reduceSub, Int.reduceToNat, Int.reduceNeg, Nat.reduceAdd, Nat.reduceMul, Nat.reduceSub, reduceCtorEq]
end Go.Proofs.YtonolfpnidaflaaGreatDoor.E
