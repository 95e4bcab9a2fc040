/- Walks: what is asked, by numbers of any sort. No conditions. -/
import Derived.Test.YtpdenloeacaadaaGRe
import Derived.Test.YtpdenloeacaadaaGLa
namespace Go.Proofs.Ytpdenloeacaadaa.E
open Go
set_option linter.unusedSimpArgs false
set_option linter.unusedVariables false
set_option linter.unusedSectionVars false
set_option maxRecDepth 20000
set_option maxHeartbeats 1000000
structure OpR where
 kind : Nat
 role : Nat
 why : Nat
 time : Nat
 told : Bool
 id : ByteArray
 cats : Nat
 fv : ByteArray
def rls4 : List Rl := [⟨0, -1, 0, 40, 1, true⟩, ⟨1, -1, 0, 20, 3, true⟩, ⟨2, 0, 0, 40, 7, true⟩, ⟨-1, -1, 10, 12, 2, false⟩]
def kndN (n : Nat) : Nat := if n < 3 then 2 else if n = 7 then 1 else n
def op1 (c : List Int) : List OpR :=
 match c with
 | a :: b :: d :: _ => [⟨kndN (wN (IntKind.i64.wrap (a.tdiv 3)) 8), wN a 3, wN b 2, wN d 30, decide (kndN (wN (IntKind.i64.wrap (a.tdiv 3)) 8) = 1), nmS (wN d 3), wN b 8, xyS (wN b 2)⟩]
 | _ => []
def opsL (l : List (List Int)) : List OpR := (l.take 25).flatMap op1
abbrev opRules (o : OpR) : List Rl := if o.told then rls4 else []
abbrev opC (o : OpR) : List AV := [I o.kind, I o.role, I o.why, I o.time, rules (opRules o), S o.id, I o.cats, fds [⟨⟨#[107]⟩, o.fv⟩], strs [], S o.id, S ⟨#[107]⟩, S ⟨#[120]⟩]
theorem op1_len (c : List Int) : (op1 c).length ≤ 1 := by
 unfold op1
 split <;> simp
theorem op1_short {c : List Int} (h : c.length < 3) : op1 c = [] := by
 rcases c with _ | ⟨a, _ | ⟨b, _ | ⟨d, c⟩⟩⟩
 ·rfl
 ·rfl
 ·rfl
 ·simp only [List.length_cons] at h; omega
set_option maxHeartbeats 2000000 in
theorem ops_ok (l : List (List Int)) : Ok Try.prog 6 [.list 1 (l.map fun c => [ints c])] (.list 12 ((opsL l).map opC)) := by
 refine Ok.of_wp (rs := [.tmp 2]) (n := 84) Try.func6 rfl rfl rfl (by simp) fo (by kernel_rfl) ?_
 simp (decide := true) (maxSteps := 4000000) -implicitDefEqProofs only [S0, ↓reduceIte, Int.reduceAdd, Int.reduceSub, Int.reduceToNat, Int.reduceNeg, Nat.reduceAdd, Nat.reduceMul, Nat.reduceSub, reduceCtorEq]
 refine ⟨by omega, by omega, ?_⟩
 have e2 : List.take (if 25 < (l.length : Int) then (25 : Int) else (l.length : Int)).toNat (List.map (fun c => [ints c]) l) = (l.take 25).map (fun c => [ints c]) := by
  rw [List.map_take]
  split
  ·rfl
  ·rw [List.take_of_length_le (by simp), List.take_of_length_le (by simp; omega)]
 rw [e2]
 have hg : opsL l = (l.take 25).flatMap op1 := rfl
 rw [hg]
 have hm : (l.take 25).length ≤ 25 := by rw [List.length_take]; omega
 generalize l.take 25 = m at hm e2 ⊢
 have hstep : ∀ {i : Nat} {c : List Int}, m[i]? = some c → (m.take (i + 1)).flatMap op1 = (m.take i).flatMap op1 ++ op1 c := fun h => by
  rw [take_get h, List.flatMap_append]; simp
 have hlen : ∀ i, i ≤ m.length → ((m.take i).flatMap op1).length ≤ i := by
  intro i
  induction i with
  | zero => intro _; simp
  | succ i ih =>
   intro h
   obtain ⟨c, hc⟩ := lt_get (l := m) (i := i) (by omega)
   rw [hstep hc, List.length_append]
   have := op1_len c
   have := ih (by omega)
   omega
 refine ALoop.st [3, 13, 14, 15] (fun (i : Nat) => [.own (.l 81) 0 12 0 ((m.take i).flatMap op1).length, .list 1 (m.map fun c => [ints c]), I m.length, I i]) (fun i => [(.l 81, 0, .row 39 12 none (((m.take i).flatMap op1).map opC))]) (fun i => i ≤ m.length) (fun i => m.length - i) [.l 81] 0 (by simp (decide := true) (maxSteps := 4000000) -implicitDefEqProofs only [S0, ↓reduceIte, Int.reduceAdd, Int.reduceSub, Int.reduceToNat, Int.reduceNeg, Nat.reduceAdd, Nat.reduceMul, Nat.reduceSub, reduceCtorEq, List.length_map, List.take_zero, List.flatMap_nil, List.length_nil]) (by simp (decide := true) (maxSteps := 4000000) -implicitDefEqProofs only [S0, ↓reduceIte, Int.reduceAdd, Int.reduceSub, Int.reduceToNat, Int.reduceNeg, Nat.reduceAdd, Nat.reduceMul, Nat.reduceSub, reduceCtorEq, List.take_zero, List.flatMap_nil, List.map_nil]) (by simp) ?_
 intro i hi
 by_cases h : (i : Int) < m.length
 ·obtain ⟨c, hc⟩ := get_lt h
  have hw := wr_add1 h (by omega)
  have hst := hstep hc
  have hL := hlen i (by omega)
  generalize hLL : (m.take i).flatMap op1 = L at *
  by_cases hsc : c.length < 3
  ·rw [op1_short hsc, List.append_nil] at hst
   have hsc' : (c.length : Int) < 3 := by omega
   simp (decide := true) (maxSteps := 4000000) -implicitDefEqProofs only [S0, ↓reduceIte, Int.reduceAdd, Int.reduceSub, Int.reduceToNat, Int.reduceNeg, Nat.reduceAdd, Nat.reduceMul, Nat.reduceSub, reduceCtorEq, hc, h, hsc']
   exact Nxt.mk [] (i + 1) (by simp (decide := true) (maxSteps := 4000000) -implicitDefEqProofs only [S0, ↓reduceIte, Int.reduceAdd, Int.reduceSub, Int.reduceToNat, Int.reduceNeg, Nat.reduceAdd, Nat.reduceMul, Nat.reduceSub, reduceCtorEq, hw, hst]) (by simp (decide := true) (maxSteps := 4000000) -implicitDefEqProofs only [S0, ↓reduceIte, Int.reduceAdd, Int.reduceSub, Int.reduceToNat, Int.reduceNeg, Nat.reduceAdd, Nat.reduceMul, Nat.reduceSub, reduceCtorEq, hst]) (by omega) (by omega)
  ·obtain ⟨a, b, d, c, rfl⟩ := long_of hsc
   have hsc' : ¬ ((((a :: b :: d :: c).length : Nat) : Int) < 3) := by omega
   obtain ⟨ea, ha⟩ := wN_eq a (show 0 < 3 by omega)
   obtain ⟨eb, hb⟩ := wN_eq b (show 0 < 8 by omega)
   obtain ⟨eb2, hb2⟩ := wN_eq b (show 0 < 2 by omega)
   obtain ⟨ed, hd⟩ := wN_eq d (show 0 < 30 by omega)
   obtain ⟨ed3, hd3⟩ := wN_eq d (show 0 < 3 by omega)
   obtain ⟨ek, hk⟩ := wN_eq (IntKind.i64.wrap (a.tdiv 3)) (show 0 < 8 by omega)
   simp only [op1] at hst
   generalize wN a 3 = na at *
   generalize wN b 8 = nb at *
   generalize wN b 2 = nb2 at *
   generalize wN d 30 = nd at *
   generalize wN d 3 = nd3 at *
   generalize wN (IntKind.i64.wrap (a.tdiv 3)) 8 = nk at *
   have ea' : within a 3 = na := ea
   have eb' : within b 8 = nb := eb
   have eb2' : within b 2 = nb2 := eb2
   have ed' : within d 30 = nd := ed
   have ed3' : within d 3 = nd3 := ed3
   have ek' : within (IntKind.i64.wrap (a.tdiv 3)) 8 = nk := ek
   have hsc3 : ¬ (((c.length + 1 + 1 + 1 : Nat) : Int) < 3) := by omega
   have names : ([[S ⟨#[97]⟩], [S ⟨#[98]⟩], [S ⟨#[99]⟩]] : List (List AV))[nd3]? = some [S (nmS nd3)] := by
    match nd3, hd3 with
    | 0, _ => rfl
    | 1, _ => rfl
    | 2, _ => rfl
   have ways : ([[S ⟨#[120]⟩], [S ⟨#[121]⟩]] : List (List AV))[nb2]? = some [S (xyS nb2)] := by
    match nb2, hb2 with
    | 0, _ => rfl
    | 1, _ => rfl
   have kinds : ([[I 2], [I 2], [I 2], [I 3], [I 4], [I 5], [I 6], [I 1]] : List (List AV))[nk]? = some [I (kndN nk)] := by
    match nk, hk with
    | 0, _ => rfl
    | 1, _ => rfl
    | 2, _ => rfl
    | 3, _ => rfl
    | 4, _ => rfl
    | 5, _ => rfl
    | 6, _ => rfl
    | 7, _ => rfl
   have hd3' : (nd3 : Int) < 3 := by omega
   have hb2' : (nb2 : Int) < 2 := by omega
   have hk' : (nk : Int) < 8 := by omega
   simp (decide := true) (maxSteps := 4000000) -implicitDefEqProofs only [S0, ↓reduceIte, Int.reduceAdd, Int.reduceSub, Int.reduceToNat, Int.reduceNeg, Nat.reduceAdd, Nat.reduceMul, Nat.reduceSub, reduceCtorEq, hc, h, List.length_cons, hsc3]
   refine call_eq (Within_ok a 3 (by omega) (by omega)) ?_
   rw [ea']
   simp (decide := true) (maxSteps := 4000000) -implicitDefEqProofs only [S0, ↓reduceIte, Int.reduceAdd, Int.reduceSub, Int.reduceToNat, Int.reduceNeg, Nat.reduceAdd, Nat.reduceMul, Nat.reduceSub, reduceCtorEq]
   refine call_eq (Within_ok b 2 (by omega) (by omega)) ?_
   rw [eb2']
   simp (decide := true) (maxSteps := 4000000) -implicitDefEqProofs only [S0, ↓reduceIte, Int.reduceAdd, Int.reduceSub, Int.reduceToNat, Int.reduceNeg, Nat.reduceAdd, Nat.reduceMul, Nat.reduceSub, reduceCtorEq]
   refine call_eq (Within_ok d 30 (by omega) (by omega)) ?_
   rw [ed']
   simp (decide := true) (maxSteps := 4000000) -implicitDefEqProofs only [S0, ↓reduceIte, Int.reduceAdd, Int.reduceSub, Int.reduceToNat, Int.reduceNeg, Nat.reduceAdd, Nat.reduceMul, Nat.reduceSub, reduceCtorEq]
   refine call_eq (Within_ok d 3 (by omega) (by omega)) ?_
   rw [ed3']
   simp (decide := true) (maxSteps := 4000000) -implicitDefEqProofs only [S0, ↓reduceIte, Int.reduceAdd, Int.reduceSub, Int.reduceToNat, Int.reduceNeg, Nat.reduceAdd, Nat.reduceMul, Nat.reduceSub, reduceCtorEq, names, hd3']
   refine ⟨by omega, ?_⟩
   refine call_eq (Within_ok (IntKind.i64.wrap (a.tdiv 3)) 8 (by omega) (by omega)) ?_
   rw [ek']
   simp (decide := true) (maxSteps := 4000000) -implicitDefEqProofs only [S0, ↓reduceIte, Int.reduceAdd, Int.reduceSub, Int.reduceToNat, Int.reduceNeg, Nat.reduceAdd, Nat.reduceMul, Nat.reduceSub, reduceCtorEq, kinds, hk']
   refine ⟨by omega, ?_⟩
   refine call_eq (Within_ok b 8 (by omega) (by omega)) ?_
   rw [eb']
   simp (decide := true) (maxSteps := 4000000) -implicitDefEqProofs only [S0, ↓reduceIte, Int.reduceAdd, Int.reduceSub, Int.reduceToNat, Int.reduceNeg, Nat.reduceAdd, Nat.reduceMul, Nat.reduceSub, reduceCtorEq]
   refine call_eq (Within_ok b 2 (by omega) (by omega)) ?_
   rw [eb2']
   simp (decide := true) (maxSteps := 4000000) -implicitDefEqProofs only [S0, ↓reduceIte, Int.reduceAdd, Int.reduceSub, Int.reduceToNat, Int.reduceNeg, Nat.reduceAdd, Nat.reduceMul, Nat.reduceSub, reduceCtorEq, ways, hb2']
   refine ⟨by omega, ?_⟩
   by_cases h1 : kndN nk = 1
   ·rw [decide_eq_true h1] at hst
    have h1' : (kndN nk : Int) = 1 := by omega
    have tkL : List.take L.length (L.map opC) = L.map opC := List.take_of_length_le (by simp)
    simp (decide := true) (maxSteps := 4000000) -implicitDefEqProofs only [S0, ↓reduceIte, Int.reduceAdd, Int.reduceSub, Int.reduceToNat, Int.reduceNeg, Nat.reduceAdd, Nat.reduceMul, Nat.reduceSub, reduceCtorEq, h1', hL]
    refine ⟨by omega, ?_⟩
    exact Nxt.mk [] (i + 1) (by rw [hst, List.length_append, List.length_singleton]; simp (decide := true) (maxSteps := 4000000) -implicitDefEqProofs only [S0, ↓reduceIte, Int.reduceAdd, Int.reduceSub, Int.reduceToNat, Int.reduceNeg, Nat.reduceAdd, Nat.reduceMul, Nat.reduceSub, reduceCtorEq, hw]) (by rw [hst, List.map_append]; simp (decide := true) (maxSteps := 4000000) -implicitDefEqProofs only [S0, ↓reduceIte, Int.reduceAdd, Int.reduceSub, Int.reduceToNat, Int.reduceNeg, Nat.reduceAdd, Nat.reduceMul, Nat.reduceSub, reduceCtorEq, tkL, h1, List.map_cons, List.map_nil]; try rfl) (by omega) (by omega)
   ·rw [decide_eq_false h1] at hst
    have h1' : ¬ (kndN nk : Int) = 1 := by omega
    have tkL : List.take L.length (L.map opC) = L.map opC := List.take_of_length_le (by simp)
    simp (decide := true) (maxSteps := 4000000) -implicitDefEqProofs only [S0, ↓reduceIte, Int.reduceAdd, Int.reduceSub, Int.reduceToNat, Int.reduceNeg, Nat.reduceAdd, Nat.reduceMul, Nat.reduceSub, reduceCtorEq, h1', hL]
    refine ⟨by omega, ?_⟩
    exact Nxt.mk [] (i + 1) (by rw [hst, List.length_append, List.length_singleton]; simp (decide := true) (maxSteps := 4000000) -implicitDefEqProofs only [S0, ↓reduceIte, Int.reduceAdd, Int.reduceSub, Int.reduceToNat, Int.reduceNeg, Nat.reduceAdd, Nat.reduceMul, Nat.reduceSub, reduceCtorEq, hw]) (by rw [hst, List.map_append]; simp (decide := true) (maxSteps := 4000000) -implicitDefEqProofs only [S0, ↓reduceIte, Int.reduceAdd, Int.reduceSub, Int.reduceToNat, Int.reduceNeg, Nat.reduceAdd, Nat.reduceMul, Nat.reduceSub, reduceCtorEq, tkL, h1, List.map_cons, List.map_nil]; try rfl) (by omega) (by omega)
 ·obtain rfl : i = m.length := by omega
  rw [List.take_of_length_le (Nat.le_refl _)]
  have tkm : List.take (m.flatMap op1).length ((m.flatMap op1).map opC) = (m.flatMap op1).map opC := List.take_of_length_le (by simp)
  simp (decide := true) (maxSteps := 4000000) -implicitDefEqProofs only [S0, ↓reduceIte, Int.reduceAdd, Int.reduceSub, Int.reduceToNat, Int.reduceNeg, Nat.reduceAdd, Nat.reduceMul, Nat.reduceSub, reduceCtorEq, h, tkm]
end Go.Proofs.Ytpdenloeacaadaa.E
