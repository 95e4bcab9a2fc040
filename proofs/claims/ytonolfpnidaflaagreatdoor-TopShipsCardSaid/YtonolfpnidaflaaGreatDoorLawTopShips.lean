/- Walks: TopShips. No conditions. -/
import Derived.Test.YtonolfpnidaflaaGreatDoorSrvB
import Derived.Test.YtonolfpnidaflaaGreatDoorSrvQ
import Derived.Test.YtonolfpnidaflaaGreatDoorLogAW
import Derived.Test.YtonolfpnidaflaaGreatDoorStrC
import Derived.Test.YtonolfpnidaflaaGreatDoorGrpB
import Derived.Test.YtonolfpnidaflaaGreatDoorTshL
import Derived.Test.YtonolfpnidaflaaGreatDoorWk
import Derived.Test.YtonolfpnidaflaaGreatDoorReadC
namespace Go.Proofs.YtonolfpnidaflaaGreatDoor.E
open Go
set_option linter.unusedSimpArgs false
set_option linter.unusedVariables false
set_option linter.unusedSectionVars false
set_option maxRecDepth 20000
set_option maxHeartbeats 4000000
theorem begun_ok : Ok Tryz.prog 25 [] (B true) := by
 refine Ok.of_wp (rs := [.tmp 0]) (n := 15) Tryz.func25 rfl rfl rfl (by simp) fo (by kernel_rfl) ?_
 have e : putE [] ⟨⟨#[97]⟩, 0, [], []⟩ = 0 := by decide +kernel
 simp (decide := true) (maxSteps := 4000000) -implicitDefEqProofs only [S0, ↓reduceIte, Int.reduceAdd, Int.reduceSub, Int.reduceToNat, Int.reduceNeg, Nat.reduceAdd, Nat.reduceMul, Nat.reduceSub, reduceCtorEq]
 refine call_ok (Put_ok [] ⟨⟨#[97]⟩, 0, [], []⟩) (by simp (decide := true) (maxSteps := 4000000) -implicitDefEqProofs only [S0, ↓reduceIte, Int.reduceAdd, Int.reduceSub, Int.reduceToNat, Int.reduceNeg, Nat.reduceAdd, Nat.reduceMul, Nat.reduceSub, reduceCtorEq]) ?_
 rw [e, if_pos rfl]
 simp (decide := true) (maxSteps := 4000000) -implicitDefEqProofs only [S0, ↓reduceIte, Int.reduceAdd, Int.reduceSub, Int.reduceToNat, Int.reduceNeg, Nat.reduceAdd, Nat.reduceMul, Nat.reduceSub, reduceCtorEq]
 rfl
theorem opB_f : opB.kind = 1 ∧ opB.who = ⟨0, 0, 0⟩ ∧ opB.rs = rlsB ∧ opB.rcd = ⟨⟨#[]⟩, 0, [], []⟩ ∧ opB.id = ⟨#[]⟩ ∧ opB.fd = ⟨⟨#[]⟩, ⟨#[]⟩⟩ := ⟨rfl, rfl, rfl, rfl, rfl, rfl⟩
theorem began_ok : OkH Tryz.prog 26 [] [] (.tup [.ptr (.e 0) 1 0, B true]) [(1, .cells 86 (svC svT 1)), (1, .row 93 4 none (svT.notes.map ntC))] := by
 refine OkH.of_wp (rs := [.tmp 0, .tmp 1]) (n := 23) [some (.l 7), some (.m 7 1)] Tryz.func26 rfl rfl rfl (by simp) fo (by kernel_rfl) ?_
 simp (decide := true) (maxSteps := 4000000) -implicitDefEqProofs only [S0, ↓reduceIte, Int.reduceAdd, Int.reduceSub, Int.reduceToNat, Int.reduceNeg, Nat.reduceAdd, Nat.reduceMul, Nat.reduceSub, reduceCtorEq]
 refine callHF (srvNew_ok up012) [.l 7, .m 7 1] ?_
 simp (decide := true) (maxSteps := 4000000) -implicitDefEqProofs only [S0, ↓reduceIte, Int.reduceAdd, Int.reduceSub, Int.reduceToNat, Int.reduceNeg, Nat.reduceAdd, Nat.reduceMul, Nat.reduceSub, reduceCtorEq]
 refine ⟨rfl, ?_⟩
 have v1 : vD sv0 opB = 0 := rfl
 have e1 : doS sv0 opB = (svT, tdE 0) := svT_do
 have cD := srvDoR_ok sv0_ok opB rfl rlsB_ok
 rw [e1] at cD
 refine callH cD [.l 7, .m 7 1, .l 16] ?_
 simp (decide := true) (maxSteps := 4000000) -implicitDefEqProofs only [S0, ↓reduceIte, Int.reduceAdd, Int.reduceSub, Int.reduceToNat, Int.reduceNeg, Nat.reduceAdd, Nat.reduceMul, Nat.reduceSub, reduceCtorEq, opB_f, tdE, svT, rlsB, Option.getD_some]
 exact ⟨⟨rfl, rfl, rfl, rfl⟩, rfl, rfl, rfl⟩
theorem join0_ok (l : List OpS) (h1 : l.length ≤ 1000000) (h2 : (logL l).length ≤ 140737488355328) : Ok Tryz.prog 23 [strs (l.map lnB), S ⟨#[]⟩] (S (bs (logL l))) := by
 intro w T vs hT hG hv
 simp only [RVL, RV] at hv
 obtain ⟨_, _, rfl, ⟨a, cap, rfl, hc, hn, hr⟩, _, _, rfl, ⟨rfl, _⟩, rfl⟩ := hv
 rw [List.length_map] at hc ⊢
 cases l with
 | nil =>
  refine (Go.Proofs.Tryz.strings_Join_none a cap ⟨#[]⟩ w).mono ?_
  rintro e w' ⟨rfl, rfl⟩
  exact ⟨_, rfl, Go.RowKit.Below.refl _ _, by simp only [RV]; exact ⟨by trivial, rfl⟩⟩
 | cons x l =>
  rcases hr with hr | ⟨b, off, rfl, hb, hr⟩
  ·cases hr
  ·have hj : ((x :: l).map lnB).map (·.data.toList) = (x :: l).map fun o => lineL o := by rw [List.map_map]; rfl
   have hJ : Lib.join (((x :: l).map lnB).map (·.data.toList)) (⟨#[]⟩ : ByteArray).data.toList = logL (x :: l) := by rw [hj]; exact joinS _
   refine (Go.Proofs.Tryz.strings_Join b off cap ((x :: l).map lnB) ⟨#[]⟩ w (fun j y hy => cells_strs hr j y hy) (hT b hb) (by rw [List.length_map]; omega) hc (by rw [hJ]; exact h2)).mono ?_
   rintro e w' ⟨rfl, hB⟩
   exact ⟨_, rfl, hB, by simp only [RV]; exact ⟨by rw [hJ]; rfl, rfl⟩⟩
/-- The versions that there were, step by step. -/
def wasR (P : List OpS) : List (List AV) := (List.range (P.length + 1)).map fun k => [vers (runL svT (P.take k)).l]
theorem wasR_len (P : List OpS) : (wasR P).length = P.length + 1 := by simp [wasR]
theorem wasR_nil : wasR [] = [[vers []]] := rfl
theorem wasR_snoc (P : List OpS) (o : OpS) : wasR (P ++ [o]) = wasR P ++ [[vers (runL svT (P ++ [o])).l]] := by
 unfold wasR
 rw [List.length_append, List.length_singleton, List.range_succ, List.map_append]
 congr 1
 ·refine List.map_congr_left fun k hk => ?_
  rw [List.take_append_of_le_length (by rw [List.mem_range] at hk; omega)]
 ·rw [List.map_singleton, List.take_of_length_le (by simp)]
theorem wasR_get {P : List OpS} {m : Nat} (h : m ≤ P.length) : (wasR P)[m]? = some [vers (runL svT (P.take m)).l] := by
 unfold wasR
 rw [List.getElem?_map, List.getElem?_range (by omega)]
 rfl
theorem two_of {c : List Int} (h : 1 < c.length) : ∃ a b r, c = a :: b :: r := by
 match c, h with
 | a :: b :: r, _ => exact ⟨a, b, r, rfl⟩
structure tSt where
 i : Nat
 W : List OpS
 g : Gr
abbrev tV (t : List (List Int)) (q : List OpS) (p : tSt) : List AV := [intss t, .ptr (.l 34) 1 0, .ptr (.l 38) 1 0, .own (.l 47) 1 1 0 (p.W.length + 1), opsA q, I q.length, I p.i]
abbrev tH (p : tSt) : Hp := (.l 34, 1, .cells 86 (svAt (.m 34 1) 1 (runL svT (p.W.map plainO)))) :: (.m 34 1, 1, .row 93 4 none ((runL svT (p.W.map plainO)).notes.map ntC)) :: (.l 47, 1, .row 41 1 none (wasR (p.W.map plainO))) :: gAt 38 p.g
theorem TopShips_ok (l t : List (List Int)) : Ok Tryz.prog 7 [intss l, intss t] (B true) := by
 refine Ok.of_wp (rs := [.tmp 4]) (n := 219) Tryz.func7 rfl rfl rfl (by simp) fo (by kernel_rfl) ?_
 simp (decide := true) (maxSteps := 4000000) -implicitDefEqProofs only [S0, ↓reduceIte, Int.reduceAdd, Int.reduceSub, Int.reduceToNat, Int.reduceNeg, Nat.reduceAdd, Nat.reduceMul, Nat.reduceSub, reduceCtorEq]
 refine call_eq begun_ok ?_
 simp (decide := true) (maxSteps := 4000000) -implicitDefEqProofs only [S0, ↓reduceIte, Int.reduceAdd, Int.reduceSub, Int.reduceToNat, Int.reduceNeg, Nat.reduceAdd, Nat.reduceMul, Nat.reduceSub, reduceCtorEq]
 refine callH began_ok [.l 34, .m 34 1] ?_
 simp (decide := true) (maxSteps := 4000000) -implicitDefEqProofs only [S0, ↓reduceIte, Int.reduceAdd, Int.reduceSub, Int.reduceToNat, Int.reduceNeg, Nat.reduceAdd, Nat.reduceMul, Nat.reduceSub, reduceCtorEq]
 refine callH (grNewF (n := 2) (by omega) 3 rfl) (gS 38) ?_
 simp (decide := true) (maxSteps := 4000000) -implicitDefEqProofs only [S0, ↓reduceIte, Int.reduceAdd, Int.reduceSub, Int.reduceToNat, Int.reduceNeg, Nat.reduceAdd, Nat.reduceMul, Nat.reduceSub, reduceCtorEq, gfs]
 refine call_eq (ops_ok l) ?_
 rw [← opS'_C]
 have hql := opsT_len l
 have hqT : ∀ o ∈ (opsL l).map opS', tOk o := fun o ho => opsT ho
 generalize (opsL l).map opS' = q at hql hqT
 simp (decide := true) (maxSteps := 4000000) -implicitDefEqProofs only [S0, ↓reduceIte, Int.reduceAdd, Int.reduceSub, Int.reduceToNat, Int.reduceNeg, Nat.reduceAdd, Nat.reduceMul, Nat.reduceSub, reduceCtorEq]
 refine ALoop.st [1, 5, 7, 9, 49, 50, 51] (fun p : tSt => tV t q p) (fun p => tH p) (fun p => p.i ≤ q.length ∧ p.W.length ≤ p.i ∧ tshI p.W p.g) (fun p => q.length - p.i) [] ⟨0, [], gFull 2 []⟩ (by simp (decide := true) (maxSteps := 4000000) -implicitDefEqProofs only [S0, ↓reduceIte, Int.reduceAdd, Int.reduceSub, Int.reduceToNat, Int.reduceNeg, Nat.reduceAdd, Nat.reduceMul, Nat.reduceSub, reduceCtorEq, gfs]; try rfl) (by simp (decide := true) (maxSteps := 4000000) -implicitDefEqProofs only [S0, ↓reduceIte, Int.reduceAdd, Int.reduceSub, Int.reduceToNat, Int.reduceNeg, Nat.reduceAdd, Nat.reduceMul, Nat.reduceSub, reduceCtorEq, gfs, run_nil, List.map_nil, wasR_nil]; try rfl) ⟨by simp only; omega, by simp, tsh_begin⟩ ?_
 rintro ⟨i, W, g⟩ ⟨hi, hWi0, hI⟩
 simp only at hi hWi0 hI
 have hWl : (W.map plainO).length = W.length := List.length_map ..
 by_cases h : (i : Int) < q.length
 ·obtain ⟨x, hx⟩ := lt_get (l := q) (i := i) (by omega)
  have hw := wr_add1 h (by omega)
  have hs := (runL_ok svT_ok (W.map plainO)).1
  obtain ⟨xw, xi, xk⟩ := hqT x (List.mem_of_getElem? hx)
  by_cases k1 : x.kind = 1
  ·simp (decide := true) (maxSteps := 4000000) -implicitDefEqProofs only [S0, ↓reduceIte, Int.reduceAdd, Int.reduceSub, Int.reduceToNat, Int.reduceNeg, Nat.reduceAdd, Nat.reduceMul, Nat.reduceSub, reduceCtorEq, gfs, h, hx, k1]
   exact Nxt.mk [] ⟨i + 1, W, g⟩ (by simp (decide := true) (maxSteps := 4000000) -implicitDefEqProofs only [S0, ↓reduceIte, Int.reduceAdd, Int.reduceSub, Int.reduceToNat, Int.reduceNeg, Nat.reduceAdd, Nat.reduceMul, Nat.reduceSub, reduceCtorEq, gfs, hw]) (by simp (decide := true) (maxSteps := 4000000) -implicitDefEqProofs only [S0, ↓reduceIte, Int.reduceAdd, Int.reduceSub, Int.reduceToNat, Int.reduceNeg, Nat.reduceAdd, Nat.reduceMul, Nat.reduceSub, reduceCtorEq, gfs, or_true]) ⟨by simp only; omega, by simp only; omega, hI⟩ (by simp only; omega)
  ·simp (decide := true) (maxSteps := 4000000) -implicitDefEqProofs only [S0, ↓reduceIte, Int.reduceAdd, Int.reduceSub, Int.reduceToNat, Int.reduceNeg, Nat.reduceAdd, Nat.reduceMul, Nat.reduceSub, reduceCtorEq, gfs, h, hx, k1]
   refine callH (srvDo_ok hs x) [.l 34, .m 34 1] ?_
   by_cases hc0 : (doS (runL svT (W.map plainO)) x).2.code = 0
   ·simp (decide := true) (maxSteps := 4000000) -implicitDefEqProofs only [S0, ↓reduceIte, Int.reduceAdd, Int.reduceSub, Int.reduceToNat, Int.reduceNeg, Nat.reduceAdd, Nat.reduceMul, Nat.reduceSub, reduceCtorEq, gfs, hc0]
    refine call_eq (logWrite_ok x (whoOk_I xw)) ?_
    by_cases hk : chkOp x = 0
    ·have hwr : bs (writeL x) = lnB x := by rw [writeL, if_pos hk]; rfl
     have hkk := chk_kind hk
     obtain ⟨HI, hrun⟩ := tsh_add hI (by omega) k1 hk hc0 hkk
     have hs2 := (runL_ok svT_ok ((W ++ [x]).map plainO)).1
     have hlogl : g.log.length = W.length := by rw [hI.log, List.length_map]
     have hn0 := hI.n
     have hn1 : 1 ≤ g.n := by omega
     have cA := grAdd_ok g (by omega) (lnB x) hn1 hI.inv.ok.2.2.2.1
     have hWi : (W ++ [x]).length ≤ i + 1 := by simp; omega
     have hrow : wasR ((W ++ [x]).map plainO) = wasR (W.map plainO) ++ [[vers (runL svT ((W ++ [x]).map plainO)).l]] := by
      rw [List.map_append, List.map_singleton]; exact wasR_snoc _ _
     have hwl : (wasR (W.map plainO)).length = W.length + 1 := by rw [wasR_len, hWl]
     have tkw : List.take (W.length + 1) (wasR (W.map plainO)) = wasR (W.map plainO) := List.take_of_length_le (by omega)
     simp (decide := true) (maxSteps := 4000000) -implicitDefEqProofs only [S0, ↓reduceIte, Int.reduceAdd, Int.reduceSub, Int.reduceToNat, Int.reduceNeg, Nat.reduceAdd, Nat.reduceMul, Nat.reduceSub, reduceCtorEq, gfs, hwr, hk]
     refine callH cA (gS 38) ?_
     simp (decide := true) (maxSteps := 4000000) -implicitDefEqProofs only [S0, ↓reduceIte, Int.reduceAdd, Int.reduceSub, Int.reduceToNat, Int.reduceNeg, Nat.reduceAdd, Nat.reduceMul, Nat.reduceSub, reduceCtorEq, gfs, ← hrun]
     refine callH (srvVersions_ok hs2) [.l 34, .m 34 1] ?_
     simp (decide := true) (maxSteps := 4000000) -implicitDefEqProofs only [S0, ↓reduceIte, Int.reduceAdd, Int.reduceSub, Int.reduceToNat, Int.reduceNeg, Nat.reduceAdd, Nat.reduceMul, Nat.reduceSub, reduceCtorEq, gfs, tkw, hwl]
     refine ⟨by omega, ?_⟩
     have e47 : wasR (W.map plainO) ++ [[vers (runL svT ((W ++ [x]).map plainO)).l]] = wasR ((W ++ [x]).map plainO) := hrow.symm
     have el : W.length + 1 + 1 = (W ++ [x]).length + 1 := by simp
     rw [e47, el]
     generalize hGG : gAdd g (lnB x) = G1 at HI ⊢
     generalize hWW : W ++ [x] = W1 at HI hrun hs2 hWi hrow e47 el ⊢
     by_cases ht : (i : Int) < t.length
     ·obtain ⟨c, hc⟩ := lt_get (l := t) (i := i) (by omega)
      by_cases hcl : 1 < c.length
      ·obtain ⟨a, b, r, rfl⟩ := two_of hcl
       have hcl' : (((r.length + 1 + 1 : Nat) : Int) > 1) := by omega
       obtain ⟨ea, ha⟩ := wN_eq a (n := 2) (by omega)
       generalize wN a 2 = j at ea ha
       have wk : IntKind.i64.wrap (1 + (j : Int)) = ((j + 1 : Nat) : Int) := by rw [wr_i64 (by omega) (by omega)]; omega
       have gok := HI.inv.ok
       have gn := HI.n
       have gf := gok.2.2.1
       have gpl := (HI.inv.pre j (by omega)).length_le
       have glg : G1.log.length ≤ 60 := gok.2.2.2.2.1
       have gE : gLog G1 (j + 1) = gHas G1 j := rfl
       have cL := grLog_ok gok (i := j + 1) (by omega)
       rw [gE] at cL
       obtain ⟨eb, hb⟩ := wN_eq b (n := (gHas G1 j).length + 1) (by omega)
       generalize wN b ((gHas G1 j).length + 1) = m at eb hb
       have w2 : IntKind.i64.wrap (((gHas G1 j).length : Int) + 1) = (((gHas G1 j).length + 1 : Nat) : Int) := by rw [wr_i64 (by omega) (by omega)]; omega
       have cS := grSend_ok gok (i := j) (m := m) (by omega) (by omega)
       have hdl : (G1.log.drop m).length = G1.log.length - m := List.length_drop ..
       obtain ⟨ed, hd⟩ := wN_eq b (n := (G1.log.drop m).length + 1) (by omega)
       generalize wN b ((G1.log.drop m).length + 1) = d at ed hd
       have w3 : IntKind.i64.wrap (((G1.log.drop m).length : Int) + 1) = (((G1.log.drop m).length + 1 : Nat) : Int) := by rw [wr_i64 (by omega) (by omega)]; omega
       have cT := grTake_ok gok (i := j) (fr := m) (by omega) ((G1.log.drop m).take d) (by rw [List.length_take]; omega)
       have hdn : d ≤ (G1.log.drop m).length := by omega
       have hmt : List.take d ((G1.log.drop m).map fun s => [S s]) = ((G1.log.drop m).take d).map fun s => [S s] := List.map_take.symm
       have nx := tsh_put HI (j := j) (by omega) m d (by omega)
       simp (decide := true) (maxSteps := 4000000) -implicitDefEqProofs only [S0, ↓reduceIte, Int.reduceAdd, Int.reduceSub, Int.reduceToNat, Int.reduceNeg, Nat.reduceAdd, Nat.reduceMul, Nat.reduceSub, reduceCtorEq, gfs, ht, hc, hcl', List.length_cons]
       refine call_eq (Within_ok a 2 (by omega) (by omega)) ?_
       rw [show within a 2 = j from ea]
       simp (decide := true) (maxSteps := 4000000) -implicitDefEqProofs only [S0, ↓reduceIte, Int.reduceAdd, Int.reduceSub, Int.reduceToNat, Int.reduceNeg, Nat.reduceAdd, Nat.reduceMul, Nat.reduceSub, reduceCtorEq, gfs, wk, ht, hc, hcl', List.length_cons]
       refine callH cL (gS 38) ?_
       simp (decide := true) (maxSteps := 4000000) -implicitDefEqProofs only [S0, ↓reduceIte, Int.reduceAdd, Int.reduceSub, Int.reduceToNat, Int.reduceNeg, Nat.reduceAdd, Nat.reduceMul, Nat.reduceSub, reduceCtorEq, gfs, w2, ht, hc, hcl', List.length_cons]
       refine call_eq (Within_ok b (((gHas G1 j).length + 1 : Nat) : Int) (by omega) (by omega)) ?_
       rw [eb]
       simp (decide := true) (maxSteps := 4000000) -implicitDefEqProofs only [S0, ↓reduceIte, Int.reduceAdd, Int.reduceSub, Int.reduceToNat, Int.reduceNeg, Nat.reduceAdd, Nat.reduceMul, Nat.reduceSub, reduceCtorEq, gfs]
       refine callH cS (gS 38) ?_
       simp (decide := true) (maxSteps := 4000000) -implicitDefEqProofs only [S0, ↓reduceIte, Int.reduceAdd, Int.reduceSub, Int.reduceToNat, Int.reduceNeg, Nat.reduceAdd, Nat.reduceMul, Nat.reduceSub, reduceCtorEq, gfs, w3, ht, hc, hcl', List.length_cons]
       refine call_eq (Within_ok b (((G1.log.drop m).length + 1 : Nat) : Int) (by omega) (by omega)) ?_
       rw [ed]
       simp (decide := true) (maxSteps := 4000000) -implicitDefEqProofs only [S0, ↓reduceIte, Int.reduceAdd, Int.reduceSub, Int.reduceToNat, Int.reduceNeg, Nat.reduceAdd, Nat.reduceMul, Nat.reduceSub, reduceCtorEq, gfs, hmt, ht, hc, hcl', List.length_cons]
       refine ⟨by omega, ?_⟩
       refine callH cT (gS 38) ?_
       simp (decide := true) (maxSteps := 4000000) -implicitDefEqProofs only [S0, ↓reduceIte, Int.reduceAdd, Int.reduceSub, Int.reduceToNat, Int.reduceNeg, Nat.reduceAdd, Nat.reduceMul, Nat.reduceSub, reduceCtorEq, gfs]
       exact Nxt.mk [] ⟨i + 1, W1, gTake G1 j m ((G1.log.drop m).take d)⟩ (by simp (decide := true) (maxSteps := 4000000) -implicitDefEqProofs only [S0, ↓reduceIte, Int.reduceAdd, Int.reduceSub, Int.reduceToNat, Int.reduceNeg, Nat.reduceAdd, Nat.reduceMul, Nat.reduceSub, reduceCtorEq, gfs, hw]) (by simp (decide := true) (maxSteps := 4000000) -implicitDefEqProofs only [S0, ↓reduceIte, Int.reduceAdd, Int.reduceSub, Int.reduceToNat, Int.reduceNeg, Nat.reduceAdd, Nat.reduceMul, Nat.reduceSub, reduceCtorEq, gfs, or_true, hrun]) ⟨by simp only; omega, hWi, nx⟩ (by simp only; omega)
      ·have hcl' : ¬ ((c.length : Int) > 1) := by omega
       simp (decide := true) (maxSteps := 4000000) -implicitDefEqProofs only [S0, ↓reduceIte, Int.reduceAdd, Int.reduceSub, Int.reduceToNat, Int.reduceNeg, Nat.reduceAdd, Nat.reduceMul, Nat.reduceSub, reduceCtorEq, gfs, ht, hc, hcl']
       exact Nxt.mk [] ⟨i + 1, W1, G1⟩ (by simp (decide := true) (maxSteps := 4000000) -implicitDefEqProofs only [S0, ↓reduceIte, Int.reduceAdd, Int.reduceSub, Int.reduceToNat, Int.reduceNeg, Nat.reduceAdd, Nat.reduceMul, Nat.reduceSub, reduceCtorEq, gfs, hw]) (by simp (decide := true) (maxSteps := 4000000) -implicitDefEqProofs only [S0, ↓reduceIte, Int.reduceAdd, Int.reduceSub, Int.reduceToNat, Int.reduceNeg, Nat.reduceAdd, Nat.reduceMul, Nat.reduceSub, reduceCtorEq, gfs, or_true, hrun]) ⟨by simp only; omega, hWi, HI⟩ (by simp only; omega)
     ·simp (decide := true) (maxSteps := 4000000) -implicitDefEqProofs only [S0, ↓reduceIte, Int.reduceAdd, Int.reduceSub, Int.reduceToNat, Int.reduceNeg, Nat.reduceAdd, Nat.reduceMul, Nat.reduceSub, reduceCtorEq, gfs, ht]
      exact Nxt.mk [] ⟨i + 1, W1, G1⟩ (by simp (decide := true) (maxSteps := 4000000) -implicitDefEqProofs only [S0, ↓reduceIte, Int.reduceAdd, Int.reduceSub, Int.reduceToNat, Int.reduceNeg, Nat.reduceAdd, Nat.reduceMul, Nat.reduceSub, reduceCtorEq, gfs, hw]) (by simp (decide := true) (maxSteps := 4000000) -implicitDefEqProofs only [S0, ↓reduceIte, Int.reduceAdd, Int.reduceSub, Int.reduceToNat, Int.reduceNeg, Nat.reduceAdd, Nat.reduceMul, Nat.reduceSub, reduceCtorEq, gfs, or_true, hrun]) ⟨by simp only; omega, hWi, HI⟩ (by simp only; omega)
    ·have HI := hI
     have hkn : x.kind ≠ 2 ∧ x.kind ≠ 3 := ⟨fun e => hk (done_chk (.inr (.inl e)) xw (fun _ => xi) hc0), fun e => hk (done_chk (.inr (.inr e)) xw (fun _ => xi) hc0)⟩
     have hrun : (doS (runL svT (W.map plainO)) x).1 = runL svT (W.map plainO) := asks_same k1 hkn.1 hkn.2 (by omega)
     have hWi : W.length ≤ i + 1 := by omega
     simp (decide := true) (maxSteps := 4000000) -implicitDefEqProofs only [S0, ↓reduceIte, Int.reduceAdd, Int.reduceSub, Int.reduceToNat, Int.reduceNeg, Nat.reduceAdd, Nat.reduceMul, Nat.reduceSub, reduceCtorEq, gfs, hk, hrun]
     by_cases ht : (i : Int) < t.length
     ·obtain ⟨c, hc⟩ := lt_get (l := t) (i := i) (by omega)
      by_cases hcl : 1 < c.length
      ·obtain ⟨a, b, r, rfl⟩ := two_of hcl
       have hcl' : (((r.length + 1 + 1 : Nat) : Int) > 1) := by omega
       obtain ⟨ea, ha⟩ := wN_eq a (n := 2) (by omega)
       generalize wN a 2 = j at ea ha
       have wk : IntKind.i64.wrap (1 + (j : Int)) = ((j + 1 : Nat) : Int) := by rw [wr_i64 (by omega) (by omega)]; omega
       have gok := HI.inv.ok
       have gn := HI.n
       have gf := gok.2.2.1
       have gpl := (HI.inv.pre j (by omega)).length_le
       have glg : g.log.length ≤ 60 := gok.2.2.2.2.1
       have gE : gLog g (j + 1) = gHas g j := rfl
       have cL := grLog_ok gok (i := j + 1) (by omega)
       rw [gE] at cL
       obtain ⟨eb, hb⟩ := wN_eq b (n := (gHas g j).length + 1) (by omega)
       generalize wN b ((gHas g j).length + 1) = m at eb hb
       have w2 : IntKind.i64.wrap (((gHas g j).length : Int) + 1) = (((gHas g j).length + 1 : Nat) : Int) := by rw [wr_i64 (by omega) (by omega)]; omega
       have cS := grSend_ok gok (i := j) (m := m) (by omega) (by omega)
       have hdl : (g.log.drop m).length = g.log.length - m := List.length_drop ..
       obtain ⟨ed, hd⟩ := wN_eq b (n := (g.log.drop m).length + 1) (by omega)
       generalize wN b ((g.log.drop m).length + 1) = d at ed hd
       have w3 : IntKind.i64.wrap (((g.log.drop m).length : Int) + 1) = (((g.log.drop m).length + 1 : Nat) : Int) := by rw [wr_i64 (by omega) (by omega)]; omega
       have cT := grTake_ok gok (i := j) (fr := m) (by omega) ((g.log.drop m).take d) (by rw [List.length_take]; omega)
       have hdn : d ≤ (g.log.drop m).length := by omega
       have hmt : List.take d ((g.log.drop m).map fun s => [S s]) = ((g.log.drop m).take d).map fun s => [S s] := List.map_take.symm
       have nx := tsh_put HI (j := j) (by omega) m d (by omega)
       simp (decide := true) (maxSteps := 4000000) -implicitDefEqProofs only [S0, ↓reduceIte, Int.reduceAdd, Int.reduceSub, Int.reduceToNat, Int.reduceNeg, Nat.reduceAdd, Nat.reduceMul, Nat.reduceSub, reduceCtorEq, gfs, ht, hc, hcl', List.length_cons]
       refine call_eq (Within_ok a 2 (by omega) (by omega)) ?_
       rw [show within a 2 = j from ea]
       simp (decide := true) (maxSteps := 4000000) -implicitDefEqProofs only [S0, ↓reduceIte, Int.reduceAdd, Int.reduceSub, Int.reduceToNat, Int.reduceNeg, Nat.reduceAdd, Nat.reduceMul, Nat.reduceSub, reduceCtorEq, gfs, wk, ht, hc, hcl', List.length_cons]
       refine callH cL (gS 38) ?_
       simp (decide := true) (maxSteps := 4000000) -implicitDefEqProofs only [S0, ↓reduceIte, Int.reduceAdd, Int.reduceSub, Int.reduceToNat, Int.reduceNeg, Nat.reduceAdd, Nat.reduceMul, Nat.reduceSub, reduceCtorEq, gfs, w2, ht, hc, hcl', List.length_cons]
       refine call_eq (Within_ok b (((gHas g j).length + 1 : Nat) : Int) (by omega) (by omega)) ?_
       rw [eb]
       simp (decide := true) (maxSteps := 4000000) -implicitDefEqProofs only [S0, ↓reduceIte, Int.reduceAdd, Int.reduceSub, Int.reduceToNat, Int.reduceNeg, Nat.reduceAdd, Nat.reduceMul, Nat.reduceSub, reduceCtorEq, gfs]
       refine callH cS (gS 38) ?_
       simp (decide := true) (maxSteps := 4000000) -implicitDefEqProofs only [S0, ↓reduceIte, Int.reduceAdd, Int.reduceSub, Int.reduceToNat, Int.reduceNeg, Nat.reduceAdd, Nat.reduceMul, Nat.reduceSub, reduceCtorEq, gfs, w3, ht, hc, hcl', List.length_cons]
       refine call_eq (Within_ok b (((g.log.drop m).length + 1 : Nat) : Int) (by omega) (by omega)) ?_
       rw [ed]
       simp (decide := true) (maxSteps := 4000000) -implicitDefEqProofs only [S0, ↓reduceIte, Int.reduceAdd, Int.reduceSub, Int.reduceToNat, Int.reduceNeg, Nat.reduceAdd, Nat.reduceMul, Nat.reduceSub, reduceCtorEq, gfs, hmt, ht, hc, hcl', List.length_cons]
       refine ⟨by omega, ?_⟩
       refine callH cT (gS 38) ?_
       simp (decide := true) (maxSteps := 4000000) -implicitDefEqProofs only [S0, ↓reduceIte, Int.reduceAdd, Int.reduceSub, Int.reduceToNat, Int.reduceNeg, Nat.reduceAdd, Nat.reduceMul, Nat.reduceSub, reduceCtorEq, gfs]
       exact Nxt.mk [] ⟨i + 1, W, gTake g j m ((g.log.drop m).take d)⟩ (by simp (decide := true) (maxSteps := 4000000) -implicitDefEqProofs only [S0, ↓reduceIte, Int.reduceAdd, Int.reduceSub, Int.reduceToNat, Int.reduceNeg, Nat.reduceAdd, Nat.reduceMul, Nat.reduceSub, reduceCtorEq, gfs, hw]) (by simp (decide := true) (maxSteps := 4000000) -implicitDefEqProofs only [S0, ↓reduceIte, Int.reduceAdd, Int.reduceSub, Int.reduceToNat, Int.reduceNeg, Nat.reduceAdd, Nat.reduceMul, Nat.reduceSub, reduceCtorEq, gfs, or_true, hrun]) ⟨by simp only; omega, hWi, nx⟩ (by simp only; omega)
      ·have hcl' : ¬ ((c.length : Int) > 1) := by omega
       simp (decide := true) (maxSteps := 4000000) -implicitDefEqProofs only [S0, ↓reduceIte, Int.reduceAdd, Int.reduceSub, Int.reduceToNat, Int.reduceNeg, Nat.reduceAdd, Nat.reduceMul, Nat.reduceSub, reduceCtorEq, gfs, ht, hc, hcl']
       exact Nxt.mk [] ⟨i + 1, W, g⟩ (by simp (decide := true) (maxSteps := 4000000) -implicitDefEqProofs only [S0, ↓reduceIte, Int.reduceAdd, Int.reduceSub, Int.reduceToNat, Int.reduceNeg, Nat.reduceAdd, Nat.reduceMul, Nat.reduceSub, reduceCtorEq, gfs, hw]) (by simp (decide := true) (maxSteps := 4000000) -implicitDefEqProofs only [S0, ↓reduceIte, Int.reduceAdd, Int.reduceSub, Int.reduceToNat, Int.reduceNeg, Nat.reduceAdd, Nat.reduceMul, Nat.reduceSub, reduceCtorEq, gfs, or_true, hrun]) ⟨by simp only; omega, hWi, HI⟩ (by simp only; omega)
     ·simp (decide := true) (maxSteps := 4000000) -implicitDefEqProofs only [S0, ↓reduceIte, Int.reduceAdd, Int.reduceSub, Int.reduceToNat, Int.reduceNeg, Nat.reduceAdd, Nat.reduceMul, Nat.reduceSub, reduceCtorEq, gfs, ht]
      exact Nxt.mk [] ⟨i + 1, W, g⟩ (by simp (decide := true) (maxSteps := 4000000) -implicitDefEqProofs only [S0, ↓reduceIte, Int.reduceAdd, Int.reduceSub, Int.reduceToNat, Int.reduceNeg, Nat.reduceAdd, Nat.reduceMul, Nat.reduceSub, reduceCtorEq, gfs, hw]) (by simp (decide := true) (maxSteps := 4000000) -implicitDefEqProofs only [S0, ↓reduceIte, Int.reduceAdd, Int.reduceSub, Int.reduceToNat, Int.reduceNeg, Nat.reduceAdd, Nat.reduceMul, Nat.reduceSub, reduceCtorEq, gfs, or_true, hrun]) ⟨by simp only; omega, hWi, HI⟩ (by simp only; omega)
   ·have hrun := (wrong_all hc0).1
    simp (decide := true) (maxSteps := 4000000) -implicitDefEqProofs only [S0, ↓reduceIte, Int.reduceAdd, Int.reduceSub, Int.reduceToNat, Int.reduceNeg, Nat.reduceAdd, Nat.reduceMul, Nat.reduceSub, reduceCtorEq, gfs, hc0, hrun]
    exact Nxt.mk [] ⟨i + 1, W, g⟩ (by simp (decide := true) (maxSteps := 4000000) -implicitDefEqProofs only [S0, ↓reduceIte, Int.reduceAdd, Int.reduceSub, Int.reduceToNat, Int.reduceNeg, Nat.reduceAdd, Nat.reduceMul, Nat.reduceSub, reduceCtorEq, gfs, hw]) (by simp (decide := true) (maxSteps := 4000000) -implicitDefEqProofs only [S0, ↓reduceIte, Int.reduceAdd, Int.reduceSub, Int.reduceToNat, Int.reduceNeg, Nat.reduceAdd, Nat.reduceMul, Nat.reduceSub, reduceCtorEq, gfs, or_true]) ⟨by simp only; omega, by simp only; omega, hI⟩ (by simp only; omega)
 ·have hlogl : g.log.length = W.length := by rw [hI.log, List.length_map]
  have hgn := hI.n
  have hwl : (wasR (W.map plainO)).length = W.length + 1 := by rw [wasR_len, hWl]
  simp (decide := true) (maxSteps := 4000000) -implicitDefEqProofs only [S0, ↓reduceIte, Int.reduceAdd, Int.reduceSub, Int.reduceToNat, Int.reduceNeg, Nat.reduceAdd, Nat.reduceMul, Nat.reduceSub, reduceCtorEq, gfs, h]
  refine ALoop.st [7, 9, 148] (fun (i : Nat) => [.ptr (.l 38) 1 0, .own (.l 47) 1 1 0 (W.length + 1), I i]) (fun _ => (.l 47, 1, .row 41 1 none (wasR (W.map plainO))) :: gAt 38 g) (fun i => i ≤ 3) (fun i => 3 - i) [] 0 (by simp (decide := true) (maxSteps := 4000000) -implicitDefEqProofs only [S0, ↓reduceIte, Int.reduceAdd, Int.reduceSub, Int.reduceToNat, Int.reduceNeg, Nat.reduceAdd, Nat.reduceMul, Nat.reduceSub, reduceCtorEq, gfs]; try rfl) (by simp (decide := true) (maxSteps := 4000000) -implicitDefEqProofs only [S0, ↓reduceIte, Int.reduceAdd, Int.reduceSub, Int.reduceToNat, Int.reduceNeg, Nat.reduceAdd, Nat.reduceMul, Nat.reduceSub, reduceCtorEq, gfs]; try rfl) (by omega) ?_
  intro i hi
  by_cases h : (i : Int) < 3
  ·have hw : IntKind.i64.wrap ((i : Int) + 1) = ((i + 1 : Nat) : Int) := by rw [wr_i64 (by omega) (by omega)]; omega
   obtain ⟨m, hm, hgl⟩ := tsh_has hI (i := i) (by omega)
   obtain ⟨t1, t2, t3⟩ := tsh_take hI m
   have cL := grLog_ok hI.inv.ok (i := i) (by omega)
   rw [hgl] at cL
   have hml : (W.take m).length = m := by rw [List.length_take]; omega
   have hmi : ¬ (((W.take m).length : Int) ≥ ((W.length + 1 : Nat) : Int)) := by omega
   have cJ := join0_ok (W.take m) (by omega) (by omega)
   have hall := allT_log t1 (by omega)
   have cA := logAll_ok (bs (logL (W.take m))) (by rw [bs_size]; omega)
   rw [bs_list, hall] at cA
   have hPl : ((W.take m).map plainO).length = (W.take m).length := List.length_map ..
   simp (decide := true) (maxSteps := 4000000) -implicitDefEqProofs only [S0, ↓reduceIte, Int.reduceAdd, Int.reduceSub, Int.reduceToNat, Int.reduceNeg, Nat.reduceAdd, Nat.reduceMul, Nat.reduceSub, reduceCtorEq, gfs, h]
   refine callH cL (gS 38) ?_
   simp (decide := true) (maxSteps := 4000000) -implicitDefEqProofs only [S0, ↓reduceIte, Int.reduceAdd, Int.reduceSub, Int.reduceToNat, Int.reduceNeg, Nat.reduceAdd, Nat.reduceMul, Nat.reduceSub, reduceCtorEq, gfs]
   refine callH began_ok [.l 158, .m 158 1] ?_
   simp (decide := true) (maxSteps := 4000000) -implicitDefEqProofs only [S0, ↓reduceIte, Int.reduceAdd, Int.reduceSub, Int.reduceToNat, Int.reduceNeg, Nat.reduceAdd, Nat.reduceMul, Nat.reduceSub, reduceCtorEq, gfs, hmi]
   refine call_eq cJ ?_
   simp (decide := true) (maxSteps := 4000000) -implicitDefEqProofs only [S0, ↓reduceIte, Int.reduceAdd, Int.reduceSub, Int.reduceToNat, Int.reduceNeg, Nat.reduceAdd, Nat.reduceMul, Nat.reduceSub, reduceCtorEq, gfs]
   refine call_eq cA ?_
   simp (decide := true) (maxSteps := 4000000) -implicitDefEqProofs only [S0, ↓reduceIte, Int.reduceAdd, Int.reduceSub, Int.reduceToNat, Int.reduceNeg, Nat.reduceAdd, Nat.reduceMul, Nat.reduceSub, reduceCtorEq, gfs, hPl]
   refine call_eq cJ ?_
   simp (decide := true) (maxSteps := 4000000) -implicitDefEqProofs only [S0, ↓reduceIte, Int.reduceAdd, Int.reduceSub, Int.reduceToNat, Int.reduceNeg, Nat.reduceAdd, Nat.reduceMul, Nat.reduceSub, reduceCtorEq, gfs, bs_size]
   have hget : (wasR (W.map plainO))[m]? = some [vers (runL svT ((W.map plainO).take m)).l] := wasR_get (by rw [hWl]; omega)
   have hPt : (W.take m).map plainO = (W.map plainO).take m := List.map_take
   generalize hP : (W.take m).map plainO = P at *
   refine ALoop.st [7, 9, 23, 25, 148, 197, 198, 199] (fun (j : Nat) => [.ptr (.l 38) 1 0, .own (.l 47) 1 1 0 (W.length + 1), strs ((W.take m).map lnB), .ptr (.l 158) 1 0, I i, opsA P, I (W.take m).length, I j]) (fun j => (.l 158, 1, .cells 86 (svAt (.m 158 1) 1 (runL svT (P.take j)))) :: (.m 158 1, 1, .row 93 4 none ((runL svT (P.take j)).notes.map ntC)) :: (.l 47, 1, .row 41 1 none (wasR (W.map plainO))) :: gAt 38 g) (fun j => j ≤ P.length) (fun j => P.length - j) [] 0 (by simp (decide := true) (maxSteps := 4000000) -implicitDefEqProofs only [S0, ↓reduceIte, Int.reduceAdd, Int.reduceSub, Int.reduceToNat, Int.reduceNeg, Nat.reduceAdd, Nat.reduceMul, Nat.reduceSub, reduceCtorEq, gfs]; try rfl) (by simp (decide := true) (maxSteps := 4000000) -implicitDefEqProofs only [S0, ↓reduceIte, Int.reduceAdd, Int.reduceSub, Int.reduceToNat, Int.reduceNeg, Nat.reduceAdd, Nat.reduceMul, Nat.reduceSub, reduceCtorEq, gfs, List.take_zero, run_nil, and_self]; try rfl) (by omega) ?_
   intro j hj
   by_cases hjl : (j : Int) < (W.take m).length
   ·obtain ⟨x, hx⟩ := lt_get (l := P) (i := j) (by omega)
    have hw := wr_add1 (n := (W.take m).length) (i := j) hjl (by omega)
    have hbk := (runL_ok svT_ok (P.take j)).1
    have hr := run_snoc (s := svT) hx
    have hc := okRun_get t3 hx
    generalize runL svT (P.take j) = b at hbk hr hc ⊢
    simp (decide := true) (maxSteps := 4000000) -implicitDefEqProofs only [S0, ↓reduceIte, Int.reduceAdd, Int.reduceSub, Int.reduceToNat, Int.reduceNeg, Nat.reduceAdd, Nat.reduceMul, Nat.reduceSub, reduceCtorEq, gfs, hjl, hx]
    refine callH (srvDo_ok hbk x) [.l 158, .m 158 1] ?_
    simp (decide := true) (maxSteps := 4000000) -implicitDefEqProofs only [S0, ↓reduceIte, Int.reduceAdd, Int.reduceSub, Int.reduceToNat, Int.reduceNeg, Nat.reduceAdd, Nat.reduceMul, Nat.reduceSub, reduceCtorEq, gfs, hc]
    exact Nxt.mk [] (j + 1) (by simp (decide := true) (maxSteps := 4000000) -implicitDefEqProofs only [S0, ↓reduceIte, Int.reduceAdd, Int.reduceSub, Int.reduceToNat, Int.reduceNeg, Nat.reduceAdd, Nat.reduceMul, Nat.reduceSub, reduceCtorEq, gfs, hw]) (by simp (decide := true) (maxSteps := 4000000) -implicitDefEqProofs only [S0, ↓reduceIte, Int.reduceAdd, Int.reduceSub, Int.reduceToNat, Int.reduceNeg, Nat.reduceAdd, Nat.reduceMul, Nat.reduceSub, reduceCtorEq, gfs, hr, or_true]) (by omega) (by omega)
   ·obtain rfl : j = P.length := by omega
    have hbk := (runL_ok svT_ok P).1
    rw [List.take_of_length_le (Nat.le_refl _)]
    have hl := (chkSt_len hbk.2.2.1).1
    have c1 := SameSt_ok (runL svT P).l (runL svT P).l (by omega) (chkSt_lens hbk.2.2.1)
    rw [decide_eq_true rfl] at c1
    have hlt2 : (m : Int) < ((W.length + 1 : Nat) : Int) := by omega
    have hlt : ((W.take m).length : Int) < ((W.length + 1 : Nat) : Int) := by omega
    simp (decide := true) (maxSteps := 4000000) -implicitDefEqProofs only [S0, ↓reduceIte, Int.reduceAdd, Int.reduceSub, Int.reduceToNat, Int.reduceNeg, Nat.reduceAdd, Nat.reduceMul, Nat.reduceSub, reduceCtorEq, gfs, hjl, hlt]
    refine callH (srvVersions_ok hbk) [.l 158, .m 158 1] ?_
    rw [hPt] at c1 ⊢
    simp (decide := true) (maxSteps := 4000000) -implicitDefEqProofs only [S0, ↓reduceIte, Int.reduceAdd, Int.reduceSub, Int.reduceToNat, Int.reduceNeg, Nat.reduceAdd, Nat.reduceMul, Nat.reduceSub, reduceCtorEq, gfs, hml, hget, hlt2]
    refine call_eq c1 ?_
    simp (decide := true) (maxSteps := 4000000) -implicitDefEqProofs only [S0, ↓reduceIte, Int.reduceAdd, Int.reduceSub, Int.reduceToNat, Int.reduceNeg, Nat.reduceAdd, Nat.reduceMul, Nat.reduceSub, reduceCtorEq, gfs]
    exact Nxt.mk [] (i + 1) (by simp (decide := true) (maxSteps := 4000000) -implicitDefEqProofs only [S0, ↓reduceIte, Int.reduceAdd, Int.reduceSub, Int.reduceToNat, Int.reduceNeg, Nat.reduceAdd, Nat.reduceMul, Nat.reduceSub, reduceCtorEq, gfs, hw]) (by simp (decide := true) (maxSteps := 4000000) -implicitDefEqProofs only [S0, ↓reduceIte, Int.reduceAdd, Int.reduceSub, Int.reduceToNat, Int.reduceNeg, Nat.reduceAdd, Nat.reduceMul, Nat.reduceSub, reduceCtorEq, gfs, or_true]) (by omega) (by omega)
  ·obtain rfl : i = 3 := by omega
   simp (decide := true) (maxSteps := 4000000) -implicitDefEqProofs only [S0, ↓reduceIte, Int.reduceAdd, Int.reduceSub, Int.reduceToNat, Int.reduceNeg, Nat.reduceAdd, Nat.reduceMul, Nat.reduceSub, reduceCtorEq, gfs]
end Go.Proofs.YtonolfpnidaflaaGreatDoor.E
