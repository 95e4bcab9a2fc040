/- Walks: what is asked of a server, by numbers of any sort. No conditions. -/
import Derived.Test.YtonolfpnidaflaaGreatDoorAskP
import Derived.Test.YtonolfpnidaflaaGreatDoorSrv
import Derived.Test.YtonolfpnidaflaaGreatDoorGRe
namespace Go.Proofs.YtonolfpnidaflaaGreatDoor.E
open Go
set_option linter.unusedSimpArgs false
set_option linter.unusedVariables false
set_option linter.unusedSectionVars false
set_option maxRecDepth 20000
set_option maxHeartbeats 1000000
set_option maxHeartbeats 4000000 in
theorem asked_ok (l : List (List Int)) : Ok Tryz.prog 10 [.list 1 (l.map fun c => [ints c])] (.list 12 ((askL l).map opC')) := by
 refine Ok.of_wp (rs := [.tmp 2]) (n := 120) Tryz.func10 rfl rfl rfl (by simp) fo (by kernel_rfl) ?_
 simp (decide := true) (maxSteps := 4000000) -implicitDefEqProofs only [S0, ↓reduceIte, Int.reduceAdd, Int.reduceSub, Int.reduceToNat, Int.reduceNeg, Nat.reduceAdd, Nat.reduceMul, Nat.reduceSub, reduceCtorEq]
 refine ⟨by omega, by omega, ?_⟩
 have e2 : List.take (if 30 < (l.length : Int) then (30 : Int) else (l.length : Int)).toNat (List.map (fun c => [ints c]) l) = (l.take 30).map (fun c => [ints c]) := by
  rw [List.map_take]
  split
  ·rfl
  ·rw [List.take_of_length_le (by simp), List.take_of_length_le (by simp; omega)]
 rw [e2]
 have hg : askL l = (l.take 30).flatMap ask1 := rfl
 rw [hg]
 have hm : (l.take 30).length ≤ 30 := by rw [List.length_take]; omega
 generalize l.take 30 = m at hm e2 ⊢
 have hstep : ∀ {i : Nat} {c : List Int}, m[i]? = some c → (m.take (i + 1)).flatMap ask1 = (m.take i).flatMap ask1 ++ ask1 c := fun h => by
  rw [take_get h, List.flatMap_append]; simp
 have hlen : ∀ i, i ≤ m.length → ((m.take i).flatMap ask1).length ≤ i := by
  intro i
  induction i with
  | zero => intro _; simp
  | succ i ih =>
   intro h
   obtain ⟨c, hc⟩ := lt_get (l := m) (i := i) (by omega)
   rw [hstep hc, List.length_append]
   have := ask1_len c
   have := ih (by omega)
   omega
 refine ALoop.st [3, 13, 14, 15] (fun (i : Nat) => [.own (.l 117) 0 12 0 ((m.take i).flatMap ask1).length, .list 1 (m.map fun c => [ints c]), I m.length, I i]) (fun i => [(.l 117, 0, .row 39 12 none (((m.take i).flatMap ask1).map opC'))]) (fun i => i ≤ m.length) (fun i => m.length - i) [.l 117] 0 (by simp (decide := true) (maxSteps := 4000000) -implicitDefEqProofs only [S0, ↓reduceIte, Int.reduceAdd, Int.reduceSub, Int.reduceToNat, Int.reduceNeg, Nat.reduceAdd, Nat.reduceMul, Nat.reduceSub, reduceCtorEq, List.length_map, List.take_zero, List.flatMap_nil, List.length_nil]) (by simp (decide := true) (maxSteps := 4000000) -implicitDefEqProofs only [S0, ↓reduceIte, Int.reduceAdd, Int.reduceSub, Int.reduceToNat, Int.reduceNeg, Nat.reduceAdd, Nat.reduceMul, Nat.reduceSub, reduceCtorEq, List.take_zero, List.flatMap_nil, List.map_nil]) (by simp) ?_
 intro i hi
 by_cases h : (i : Int) < m.length
 ·obtain ⟨c, hc⟩ := get_lt h
  have hw := wr_add1 h (by omega)
  have hst := hstep hc
  have hL := hlen i (by omega)
  generalize hLL : (m.take i).flatMap ask1 = L at *
  by_cases hsc : c.length < 3
  ·rw [ask1_short hsc, List.append_nil] at hst
   have hsc' : (c.length : Int) < 3 := by omega
   simp (decide := true) (maxSteps := 4000000) -implicitDefEqProofs only [S0, ↓reduceIte, Int.reduceAdd, Int.reduceSub, Int.reduceToNat, Int.reduceNeg, Nat.reduceAdd, Nat.reduceMul, Nat.reduceSub, reduceCtorEq, hc, h, hsc']
   exact Nxt.mk [] (i + 1) (by simp (decide := true) (maxSteps := 4000000) -implicitDefEqProofs only [S0, ↓reduceIte, Int.reduceAdd, Int.reduceSub, Int.reduceToNat, Int.reduceNeg, Nat.reduceAdd, Nat.reduceMul, Nat.reduceSub, reduceCtorEq, hw, hst]) (by simp (decide := true) (maxSteps := 4000000) -implicitDefEqProofs only [S0, ↓reduceIte, Int.reduceAdd, Int.reduceSub, Int.reduceToNat, Int.reduceNeg, Nat.reduceAdd, Nat.reduceMul, Nat.reduceSub, reduceCtorEq, hst]) (by omega) (by omega)
  ·obtain ⟨a, b, d, c, rfl⟩ := long_of hsc
   obtain ⟨ea, ha⟩ := wN_eq a (show 0 < 3 by omega)
   obtain ⟨eb8, hb8⟩ := wN_eq b (show 0 < 8 by omega)
   obtain ⟨eb3, hb3⟩ := wN_eq b (show 0 < 3 by omega)
   obtain ⟨eb2, hb2⟩ := wN_eq b (show 0 < 2 by omega)
   obtain ⟨ed, hd⟩ := wN_eq d (show 0 < 40 by omega)
   obtain ⟨ed2, hd2⟩ := wN_eq d (show 0 < 2 by omega)
   obtain ⟨ed9, hd9⟩ := wN_eq d (show 0 < 9 by omega)
   obtain ⟨ed4, hd4⟩ := wN_eq d (show 0 < 4 by omega)
   obtain ⟨ek, hk⟩ := wN_eq (IntKind.i64.wrap (a.tdiv 3)) (show 0 < 10 by omega)
   simp only [ask1] at hst
   generalize wN a 3 = na at *
   generalize wN b 8 = nb8 at *
   generalize wN b 3 = nb3 at *
   generalize wN b 2 = nb2 at *
   generalize wN d 40 = nd at *
   generalize wN d 2 = nd2 at *
   generalize wN d 9 = nd9 at *
   generalize wN d 4 = nd4 at *
   generalize wN (IntKind.i64.wrap (a.tdiv 3)) 10 = nk at *
   have ea' : within a 3 = na := ea
   have eb8' : within b 8 = nb8 := eb8
   have eb3' : within b 3 = nb3 := eb3
   have eb2' : within b 2 = nb2 := eb2
   have ed' : within d 40 = nd := ed
   have ed2' : within d 2 = nd2 := ed2
   have ed9' : within d 9 = nd9 := ed9
   have ed4' : within d 4 = nd4 := ed4
   have ek' : within (IntKind.i64.wrap (a.tdiv 3)) 10 = nk := ek
   have hsc3 : ¬ (((c.length + 1 + 1 + 1 : Nat) : Int) < 3) := by omega
   have names : ([[S ⟨#[97]⟩], [S ⟨#[98]⟩]] : List (List AV))[nd2]? = some [S (nmS nd2)] := by
    match nd2, hd2 with
    | 0, _ => rfl
    | 1, _ => rfl
   have ways : ([[S ⟨#[120]⟩], [S ⟨#[121]⟩]] : List (List AV))[nd2]? = some [S (xyS nd2)] := by
    match nd2, hd2 with
    | 0, _ => rfl
    | 1, _ => rfl
   have kinds : ([[I 6], [I 7], [I 8]] : List (List AV))[nb3]? = some [I ((6 + nb3 : Nat) : Int)] := by
    match nb3, hb3 with
    | 0, _ => rfl
    | 1, _ => rfl
    | 2, _ => rfl
   have hd2' : (nd2 : Int) < 2 := by omega
   have hb3' : (nb3 : Int) < 3 := by omega
   have e1b : IntKind.i64.wrap (1 + (nb3 : Int)) = ((1 + nb3 : Nat) : Int) := by rw [wr_i64 (by omega) (by omega)]; omega
   have tkL : List.take L.length (L.map opC') = L.map opC' := List.take_of_length_le (by simp)
   simp (decide := true) (maxSteps := 4000000) -implicitDefEqProofs only [S0, ↓reduceIte, Int.reduceAdd, Int.reduceSub, Int.reduceToNat, Int.reduceNeg, Nat.reduceAdd, Nat.reduceMul, Nat.reduceSub, reduceCtorEq, hc, h, List.length_cons, hsc3]
   refine call_eq (Within_ok a 3 (by omega) (by omega)) ?_
   rw [ea']
   simp (decide := true) (maxSteps := 4000000) -implicitDefEqProofs only [S0, ↓reduceIte, Int.reduceAdd, Int.reduceSub, Int.reduceToNat, Int.reduceNeg, Nat.reduceAdd, Nat.reduceMul, Nat.reduceSub, reduceCtorEq]
   refine call_eq (Within_ok b 2 (by omega) (by omega)) ?_
   rw [eb2']
   simp (decide := true) (maxSteps := 4000000) -implicitDefEqProofs only [S0, ↓reduceIte, Int.reduceAdd, Int.reduceSub, Int.reduceToNat, Int.reduceNeg, Nat.reduceAdd, Nat.reduceMul, Nat.reduceSub, reduceCtorEq]
   refine call_eq (Within_ok d 40 (by omega) (by omega)) ?_
   rw [ed']
   simp (decide := true) (maxSteps := 4000000) -implicitDefEqProofs only [S0, ↓reduceIte, Int.reduceAdd, Int.reduceSub, Int.reduceToNat, Int.reduceNeg, Nat.reduceAdd, Nat.reduceMul, Nat.reduceSub, reduceCtorEq]
   refine call_eq (Within_ok d 2 (by omega) (by omega)) ?_
   rw [ed2']
   simp (decide := true) (maxSteps := 4000000) -implicitDefEqProofs only [S0, ↓reduceIte, Int.reduceAdd, Int.reduceSub, Int.reduceToNat, Int.reduceNeg, Nat.reduceAdd, Nat.reduceMul, Nat.reduceSub, reduceCtorEq, names, hd2']
   refine ⟨by omega, ?_⟩
   refine call_eq (Within_ok b 8 (by omega) (by omega)) ?_
   rw [eb8']
   simp (decide := true) (maxSteps := 4000000) -implicitDefEqProofs only [S0, ↓reduceIte, Int.reduceAdd, Int.reduceSub, Int.reduceToNat, Int.reduceNeg, Nat.reduceAdd, Nat.reduceMul, Nat.reduceSub, reduceCtorEq]
   refine call_eq (Within_ok (IntKind.i64.wrap (a.tdiv 3)) 10 (by omega) (by omega)) ?_
   rw [ek']
   rcases (show nk = 0 ∨ nk = 1 ∨ nk = 2 ∨ nk = 3 ∨ nk = 4 ∨ nk = 5 ∨ nk = 6 ∨ nk = 7 ∨ nk = 8 ∨ nk = 9 by omega) with rfl | rfl | rfl | rfl | rfl | rfl | rfl | rfl | rfl | rfl
   ·simp (decide := true) (maxSteps := 4000000) -implicitDefEqProofs only [S0, ↓reduceIte, Int.reduceAdd, Int.reduceSub, Int.reduceToNat, Int.reduceNeg, Nat.reduceAdd, Nat.reduceMul, Nat.reduceSub, reduceCtorEq]
    refine call_eq (Within_ok b 3 (by omega) (by omega)) ?_
    rw [eb3']
    simp (decide := true) (maxSteps := 4000000) -implicitDefEqProofs only [S0, ↓reduceIte, Int.reduceAdd, Int.reduceSub, Int.reduceToNat, Int.reduceNeg, Nat.reduceAdd, Nat.reduceMul, Nat.reduceSub, reduceCtorEq, e1b]
    refine call_eq (Within_ok d 9 (by omega) (by omega)) ?_
    rw [ed9']
    simp (decide := true) (maxSteps := 4000000) -implicitDefEqProofs only [S0, ↓reduceIte, Int.reduceAdd, Int.reduceSub, Int.reduceToNat, Int.reduceNeg, Nat.reduceAdd, Nat.reduceMul, Nat.reduceSub, reduceCtorEq]
    refine call_eq (Within_ok d 4 (by omega) (by omega)) ?_
    rw [ed4']
    simp (decide := true) (maxSteps := 4000000) -implicitDefEqProofs only [S0, ↓reduceIte, Int.reduceAdd, Int.reduceSub, Int.reduceToNat, Int.reduceNeg, Nat.reduceAdd, Nat.reduceMul, Nat.reduceSub, reduceCtorEq]
    refine ⟨by omega, ?_⟩
    exact Nxt.mk [] (i + 1) (by rw [hst, List.length_append, List.length_singleton]; simp (decide := true) (maxSteps := 4000000) -implicitDefEqProofs only [S0, ↓reduceIte, Int.reduceAdd, Int.reduceSub, Int.reduceToNat, Int.reduceNeg, Nat.reduceAdd, Nat.reduceMul, Nat.reduceSub, reduceCtorEq, hw]) (by rw [hst, List.map_append]; simp (decide := true) (maxSteps := 4000000) -implicitDefEqProofs only [S0, ↓reduceIte, Int.reduceAdd, Int.reduceSub, Int.reduceToNat, Int.reduceNeg, Nat.reduceAdd, Nat.reduceMul, Nat.reduceSub, reduceCtorEq, tkL, List.map_cons, List.map_nil, kndA, askR]; try rfl) (by omega) (by omega)
   ·simp (decide := true) (maxSteps := 4000000) -implicitDefEqProofs only [S0, ↓reduceIte, Int.reduceAdd, Int.reduceSub, Int.reduceToNat, Int.reduceNeg, Nat.reduceAdd, Nat.reduceMul, Nat.reduceSub, reduceCtorEq]
    refine call_eq (Within_ok b 3 (by omega) (by omega)) ?_
    rw [eb3']
    simp (decide := true) (maxSteps := 4000000) -implicitDefEqProofs only [S0, ↓reduceIte, Int.reduceAdd, Int.reduceSub, Int.reduceToNat, Int.reduceNeg, Nat.reduceAdd, Nat.reduceMul, Nat.reduceSub, reduceCtorEq, e1b]
    refine call_eq (Within_ok d 9 (by omega) (by omega)) ?_
    rw [ed9']
    simp (decide := true) (maxSteps := 4000000) -implicitDefEqProofs only [S0, ↓reduceIte, Int.reduceAdd, Int.reduceSub, Int.reduceToNat, Int.reduceNeg, Nat.reduceAdd, Nat.reduceMul, Nat.reduceSub, reduceCtorEq]
    refine call_eq (Within_ok d 4 (by omega) (by omega)) ?_
    rw [ed4']
    simp (decide := true) (maxSteps := 4000000) -implicitDefEqProofs only [S0, ↓reduceIte, Int.reduceAdd, Int.reduceSub, Int.reduceToNat, Int.reduceNeg, Nat.reduceAdd, Nat.reduceMul, Nat.reduceSub, reduceCtorEq]
    refine ⟨by omega, ?_⟩
    exact Nxt.mk [] (i + 1) (by rw [hst, List.length_append, List.length_singleton]; simp (decide := true) (maxSteps := 4000000) -implicitDefEqProofs only [S0, ↓reduceIte, Int.reduceAdd, Int.reduceSub, Int.reduceToNat, Int.reduceNeg, Nat.reduceAdd, Nat.reduceMul, Nat.reduceSub, reduceCtorEq, hw]) (by rw [hst, List.map_append]; simp (decide := true) (maxSteps := 4000000) -implicitDefEqProofs only [S0, ↓reduceIte, Int.reduceAdd, Int.reduceSub, Int.reduceToNat, Int.reduceNeg, Nat.reduceAdd, Nat.reduceMul, Nat.reduceSub, reduceCtorEq, tkL, List.map_cons, List.map_nil, kndA, askR]; try rfl) (by omega) (by omega)
   ·simp (decide := true) (maxSteps := 4000000) -implicitDefEqProofs only [S0, ↓reduceIte, Int.reduceAdd, Int.reduceSub, Int.reduceToNat, Int.reduceNeg, Nat.reduceAdd, Nat.reduceMul, Nat.reduceSub, reduceCtorEq]
    refine call_eq (Within_ok d 2 (by omega) (by omega)) ?_
    rw [ed2']
    simp (decide := true) (maxSteps := 4000000) -implicitDefEqProofs only [S0, ↓reduceIte, Int.reduceAdd, Int.reduceSub, Int.reduceToNat, Int.reduceNeg, Nat.reduceAdd, Nat.reduceMul, Nat.reduceSub, reduceCtorEq, ways, hd2']
    refine ⟨by omega, ?_⟩
    refine ⟨by omega, ?_⟩
    exact Nxt.mk [] (i + 1) (by rw [hst, List.length_append, List.length_singleton]; simp (decide := true) (maxSteps := 4000000) -implicitDefEqProofs only [S0, ↓reduceIte, Int.reduceAdd, Int.reduceSub, Int.reduceToNat, Int.reduceNeg, Nat.reduceAdd, Nat.reduceMul, Nat.reduceSub, reduceCtorEq, hw]) (by rw [hst, List.map_append]; simp (decide := true) (maxSteps := 4000000) -implicitDefEqProofs only [S0, ↓reduceIte, Int.reduceAdd, Int.reduceSub, Int.reduceToNat, Int.reduceNeg, Nat.reduceAdd, Nat.reduceMul, Nat.reduceSub, reduceCtorEq, tkL, List.map_cons, List.map_nil, kndA]; try rfl) (by omega) (by omega)
   ·simp (decide := true) (maxSteps := 4000000) -implicitDefEqProofs only [S0, ↓reduceIte, Int.reduceAdd, Int.reduceSub, Int.reduceToNat, Int.reduceNeg, Nat.reduceAdd, Nat.reduceMul, Nat.reduceSub, reduceCtorEq]
    refine call_eq (Within_ok d 2 (by omega) (by omega)) ?_
    rw [ed2']
    simp (decide := true) (maxSteps := 4000000) -implicitDefEqProofs only [S0, ↓reduceIte, Int.reduceAdd, Int.reduceSub, Int.reduceToNat, Int.reduceNeg, Nat.reduceAdd, Nat.reduceMul, Nat.reduceSub, reduceCtorEq, ways, hd2']
    refine ⟨by omega, ?_⟩
    refine ⟨by omega, ?_⟩
    exact Nxt.mk [] (i + 1) (by rw [hst, List.length_append, List.length_singleton]; simp (decide := true) (maxSteps := 4000000) -implicitDefEqProofs only [S0, ↓reduceIte, Int.reduceAdd, Int.reduceSub, Int.reduceToNat, Int.reduceNeg, Nat.reduceAdd, Nat.reduceMul, Nat.reduceSub, reduceCtorEq, hw]) (by rw [hst, List.map_append]; simp (decide := true) (maxSteps := 4000000) -implicitDefEqProofs only [S0, ↓reduceIte, Int.reduceAdd, Int.reduceSub, Int.reduceToNat, Int.reduceNeg, Nat.reduceAdd, Nat.reduceMul, Nat.reduceSub, reduceCtorEq, tkL, List.map_cons, List.map_nil, kndA]; try rfl) (by omega) (by omega)
   ·simp (decide := true) (maxSteps := 4000000) -implicitDefEqProofs only [S0, ↓reduceIte, Int.reduceAdd, Int.reduceSub, Int.reduceToNat, Int.reduceNeg, Nat.reduceAdd, Nat.reduceMul, Nat.reduceSub, reduceCtorEq]
    refine call_eq (Within_ok d 2 (by omega) (by omega)) ?_
    rw [ed2']
    simp (decide := true) (maxSteps := 4000000) -implicitDefEqProofs only [S0, ↓reduceIte, Int.reduceAdd, Int.reduceSub, Int.reduceToNat, Int.reduceNeg, Nat.reduceAdd, Nat.reduceMul, Nat.reduceSub, reduceCtorEq, ways, hd2']
    refine ⟨by omega, ?_⟩
    refine ⟨by omega, ?_⟩
    exact Nxt.mk [] (i + 1) (by rw [hst, List.length_append, List.length_singleton]; simp (decide := true) (maxSteps := 4000000) -implicitDefEqProofs only [S0, ↓reduceIte, Int.reduceAdd, Int.reduceSub, Int.reduceToNat, Int.reduceNeg, Nat.reduceAdd, Nat.reduceMul, Nat.reduceSub, reduceCtorEq, hw]) (by rw [hst, List.map_append]; simp (decide := true) (maxSteps := 4000000) -implicitDefEqProofs only [S0, ↓reduceIte, Int.reduceAdd, Int.reduceSub, Int.reduceToNat, Int.reduceNeg, Nat.reduceAdd, Nat.reduceMul, Nat.reduceSub, reduceCtorEq, tkL, List.map_cons, List.map_nil, kndA]; try rfl) (by omega) (by omega)
   ·simp (decide := true) (maxSteps := 4000000) -implicitDefEqProofs only [S0, ↓reduceIte, Int.reduceAdd, Int.reduceSub, Int.reduceToNat, Int.reduceNeg, Nat.reduceAdd, Nat.reduceMul, Nat.reduceSub, reduceCtorEq]
    refine call_eq (Within_ok d 2 (by omega) (by omega)) ?_
    rw [ed2']
    simp (decide := true) (maxSteps := 4000000) -implicitDefEqProofs only [S0, ↓reduceIte, Int.reduceAdd, Int.reduceSub, Int.reduceToNat, Int.reduceNeg, Nat.reduceAdd, Nat.reduceMul, Nat.reduceSub, reduceCtorEq, ways, hd2']
    refine ⟨by omega, ?_⟩
    refine ⟨by omega, ?_⟩
    exact Nxt.mk [] (i + 1) (by rw [hst, List.length_append, List.length_singleton]; simp (decide := true) (maxSteps := 4000000) -implicitDefEqProofs only [S0, ↓reduceIte, Int.reduceAdd, Int.reduceSub, Int.reduceToNat, Int.reduceNeg, Nat.reduceAdd, Nat.reduceMul, Nat.reduceSub, reduceCtorEq, hw]) (by rw [hst, List.map_append]; simp (decide := true) (maxSteps := 4000000) -implicitDefEqProofs only [S0, ↓reduceIte, Int.reduceAdd, Int.reduceSub, Int.reduceToNat, Int.reduceNeg, Nat.reduceAdd, Nat.reduceMul, Nat.reduceSub, reduceCtorEq, tkL, List.map_cons, List.map_nil, kndA]; try rfl) (by omega) (by omega)
   ·simp (decide := true) (maxSteps := 4000000) -implicitDefEqProofs only [S0, ↓reduceIte, Int.reduceAdd, Int.reduceSub, Int.reduceToNat, Int.reduceNeg, Nat.reduceAdd, Nat.reduceMul, Nat.reduceSub, reduceCtorEq]
    refine ⟨by omega, ?_⟩
    exact Nxt.mk [] (i + 1) (by rw [hst, List.length_append, List.length_singleton]; simp (decide := true) (maxSteps := 4000000) -implicitDefEqProofs only [S0, ↓reduceIte, Int.reduceAdd, Int.reduceSub, Int.reduceToNat, Int.reduceNeg, Nat.reduceAdd, Nat.reduceMul, Nat.reduceSub, reduceCtorEq, hw]) (by rw [hst, List.map_append]; simp (decide := true) (maxSteps := 4000000) -implicitDefEqProofs only [S0, ↓reduceIte, Int.reduceAdd, Int.reduceSub, Int.reduceToNat, Int.reduceNeg, Nat.reduceAdd, Nat.reduceMul, Nat.reduceSub, reduceCtorEq, tkL, List.map_cons, List.map_nil, kndA]; try rfl) (by omega) (by omega)
   ·simp (decide := true) (maxSteps := 4000000) -implicitDefEqProofs only [S0, ↓reduceIte, Int.reduceAdd, Int.reduceSub, Int.reduceToNat, Int.reduceNeg, Nat.reduceAdd, Nat.reduceMul, Nat.reduceSub, reduceCtorEq]
    refine ⟨by omega, ?_⟩
    exact Nxt.mk [] (i + 1) (by rw [hst, List.length_append, List.length_singleton]; simp (decide := true) (maxSteps := 4000000) -implicitDefEqProofs only [S0, ↓reduceIte, Int.reduceAdd, Int.reduceSub, Int.reduceToNat, Int.reduceNeg, Nat.reduceAdd, Nat.reduceMul, Nat.reduceSub, reduceCtorEq, hw]) (by rw [hst, List.map_append]; simp (decide := true) (maxSteps := 4000000) -implicitDefEqProofs only [S0, ↓reduceIte, Int.reduceAdd, Int.reduceSub, Int.reduceToNat, Int.reduceNeg, Nat.reduceAdd, Nat.reduceMul, Nat.reduceSub, reduceCtorEq, tkL, List.map_cons, List.map_nil, kndA]; try rfl) (by omega) (by omega)
   ·simp (decide := true) (maxSteps := 4000000) -implicitDefEqProofs only [S0, ↓reduceIte, Int.reduceAdd, Int.reduceSub, Int.reduceToNat, Int.reduceNeg, Nat.reduceAdd, Nat.reduceMul, Nat.reduceSub, reduceCtorEq]
    refine ⟨by omega, ?_⟩
    exact Nxt.mk [] (i + 1) (by rw [hst, List.length_append, List.length_singleton]; simp (decide := true) (maxSteps := 4000000) -implicitDefEqProofs only [S0, ↓reduceIte, Int.reduceAdd, Int.reduceSub, Int.reduceToNat, Int.reduceNeg, Nat.reduceAdd, Nat.reduceMul, Nat.reduceSub, reduceCtorEq, hw]) (by rw [hst, List.map_append]; simp (decide := true) (maxSteps := 4000000) -implicitDefEqProofs only [S0, ↓reduceIte, Int.reduceAdd, Int.reduceSub, Int.reduceToNat, Int.reduceNeg, Nat.reduceAdd, Nat.reduceMul, Nat.reduceSub, reduceCtorEq, tkL, List.map_cons, List.map_nil, kndA]; try rfl) (by omega) (by omega)
   ·simp (decide := true) (maxSteps := 4000000) -implicitDefEqProofs only [S0, ↓reduceIte, Int.reduceAdd, Int.reduceSub, Int.reduceToNat, Int.reduceNeg, Nat.reduceAdd, Nat.reduceMul, Nat.reduceSub, reduceCtorEq]
    refine call_eq (Within_ok b 3 (by omega) (by omega)) ?_
    rw [eb3']
    simp (decide := true) (maxSteps := 4000000) -implicitDefEqProofs only [S0, ↓reduceIte, Int.reduceAdd, Int.reduceSub, Int.reduceToNat, Int.reduceNeg, Nat.reduceAdd, Nat.reduceMul, Nat.reduceSub, reduceCtorEq, kinds, hb3']
    refine ⟨by omega, ?_⟩
    refine ⟨by omega, ?_⟩
    exact Nxt.mk [] (i + 1) (by rw [hst, List.length_append, List.length_singleton]; simp (decide := true) (maxSteps := 4000000) -implicitDefEqProofs only [S0, ↓reduceIte, Int.reduceAdd, Int.reduceSub, Int.reduceToNat, Int.reduceNeg, Nat.reduceAdd, Nat.reduceMul, Nat.reduceSub, reduceCtorEq, hw]) (by rw [hst, List.map_append]; simp (decide := true) (maxSteps := 4000000) -implicitDefEqProofs only [S0, ↓reduceIte, Int.reduceAdd, Int.reduceSub, Int.reduceToNat, Int.reduceNeg, Nat.reduceAdd, Nat.reduceMul, Nat.reduceSub, reduceCtorEq, tkL, List.map_cons, List.map_nil, kndA]; try rfl) (by omega) (by omega)
 ·obtain rfl : i = m.length := by omega
  rw [List.take_of_length_le (Nat.le_refl _)]
  have tkm : List.take (m.flatMap ask1).length ((m.flatMap ask1).map opC') = (m.flatMap ask1).map opC' := List.take_of_length_le (by simp)
  simp (decide := true) (maxSteps := 4000000) -implicitDefEqProofs only [S0, ↓reduceIte, Int.reduceAdd, Int.reduceSub, Int.reduceToNat, Int.reduceNeg, Nat.reduceAdd, Nat.reduceMul, Nat.reduceSub, reduceCtorEq, h, tkm]
end Go.Proofs.YtonolfpnidaflaaGreatDoor.E
