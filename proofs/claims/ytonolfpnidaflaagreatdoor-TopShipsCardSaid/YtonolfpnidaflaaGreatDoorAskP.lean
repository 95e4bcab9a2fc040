/- Plain law: what is asked of a server, by numbers of any sort. No conditions. -/
import Derived.Test.YtonolfpnidaflaaGreatDoorSrvL
import Derived.Test.YtonolfpnidaflaaGreatDoorGRe
namespace Go.Proofs.YtonolfpnidaflaaGreatDoor.E
open Go
set_option linter.unusedSimpArgs false
set_option linter.unusedVariables false
set_option linter.unusedSectionVars false
set_option maxRecDepth 20000
set_option maxHeartbeats 1000000
def askR (n1 n2 n3 : Nat) : List Rl := [⟨0, -1, 0, 30, ((1 + n1 : Nat) : Int), true⟩, ⟨1, 0, n2, 40, 3, true⟩, ⟨2, -1, 0, 50, 255, true⟩, ⟨-1, 1, 0, 20, n3, false⟩]
def kndA (k n : Nat) : Nat := if k < 2 then 1 else if k < 6 then 2 else if k = 6 then 3 else if k = 7 then 4 else if k = 8 then 5 else 6 + n
def ask1 (c : List Int) : List OpS :=
 match c with
 | a :: b :: d :: _ => [⟨kndA (wN (IntKind.i64.wrap (a.tdiv 3)) 10) (wN b 3), ⟨wN a 3, wN b 2, wN d 40⟩, if wN (IntKind.i64.wrap (a.tdiv 3)) 10 < 2 then askR (wN b 3) (wN d 9) (wN d 4) else [],
   ⟨nmS (wN d 2), wN b 8, if 2 ≤ wN (IntKind.i64.wrap (a.tdiv 3)) 10 ∧ wN (IntKind.i64.wrap (a.tdiv 3)) 10 < 6 then [⟨⟨#[107]⟩, xyS (wN d 2)⟩] else [], []⟩, nmS (wN d 2), ⟨⟨#[107]⟩, ⟨#[120]⟩⟩⟩]
 | _ => []
def askL (l : List (List Int)) : List OpS := (l.take 30).flatMap ask1
theorem ask1_len (c : List Int) : (ask1 c).length ≤ 1 := by
 unfold ask1
 split <;> simp
theorem askL_len (l : List (List Int)) : (askL l).length ≤ 30 := by
 have key : ∀ m : List (List Int), (m.flatMap ask1).length ≤ m.length := by
  intro m
  induction m with
  | nil => simp
  | cons c m ih => rw [List.flatMap_cons, List.length_append, List.length_cons]; have := ask1_len c; omega
 have := key (l.take 30)
 rw [List.length_take] at this
 unfold askL
 omega
theorem ask1_short {c : List Int} (h : c.length < 3) : ask1 c = [] := by
 rcases c with _ | ⟨a, _ | ⟨b, _ | ⟨d, c⟩⟩⟩
 ·rfl
 ·rfl
 ·rfl
 ·simp only [List.length_cons] at h; omega
theorem ask1_len3 {c : List Int} {o : OpS} (h : o ∈ ask1 c) : 3 ≤ c.length := by
 refine Classical.byContradiction fun hn => ?_
 rw [ask1_short (by omega)] at h
 cases h
theorem askL_who {l : List (List Int)} {o : OpS} (h : o ∈ askL l) : whoOk3 o.who := by
 unfold askL at h
 obtain ⟨c, _, hc⟩ := List.mem_flatMap.1 h
 have h3 := ask1_len3 hc
 obtain ⟨a, b, d, c, rfl⟩ := long_of (show ¬ c.length < 3 by omega)
 simp only [ask1, List.mem_singleton] at hc
 subst hc
 have h1 := (wN_eq a (show 0 < 3 by omega)).2
 have h2 := (wN_eq b (show 0 < 2 by omega)).2
 have h3 := (wN_eq d (show 0 < 40 by omega)).2
 refine ⟨?_, ?_, ?_⟩
 ·unfold whoOk
  rw [decide_eq_true_eq]
  simp only
  omega
 ·simp only; omega
 ·simp only; omega
end Go.Proofs.YtonolfpnidaflaaGreatDoor.E
