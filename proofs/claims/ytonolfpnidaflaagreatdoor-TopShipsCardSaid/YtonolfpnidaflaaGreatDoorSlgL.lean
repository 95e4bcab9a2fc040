/- Plain law: what a log says makes another server the same. No conditions. -/
import Derived.Test.YtonolfpnidaflaaGreatDoorSrvL
import Derived.Test.YtonolfpnidaflaaGreatDoorAskP
import Derived.Test.YtonolfpnidaflaaGreatDoorLogA
namespace Go.Proofs.YtonolfpnidaflaaGreatDoor.E
open Go
set_option linter.unusedSimpArgs false
set_option linter.unusedVariables false
set_option linter.unusedSectionVars false
set_option maxRecDepth 20000
theorem allT_log {l : List OpS} (h : ∀ o ∈ l, chkOp o = 0) (hl : (logL l).length ≤ 20000) : allT (logL l) = ⟨l.map plainO, (logL l).length, 0⟩ := by
 rw [allT, if_neg (by omega)]
 have := lgS_log h []
 rw [List.append_nil, lgS_stop (.inl rfl)] at this
 simpa using this
/-- The same but for the notes. -/
def wNts (s : Sv) (n : List Nt) : Sv := { s with notes := n }
theorem doS_wNts (s : Sv) (n : List Nt) (o : OpS) (h : o.kind = 1 ∨ o.kind = 2 ∨ o.kind = 3) : doS (wNts s n) o = (wNts (doS s o).1 n, (doS s o).2) := by
 have e1 : ∀ w, sErr (wNts s n) w = sErr s w := fun _ => rfl
 have e2 : ∀ w c, sMay (wNts s n) w c = sMay s w c := fun _ _ => rfl
 have el : (wNts s n).l = s.l := rfl
 rcases h with h | h | h
 ·simp only [doS, if_pos h]
  split <;> rfl
 ·have h1 : ¬ o.kind = 1 := by omega
  simp only [doS, if_neg h1, if_pos h, doPut, e2, el]
  repeat' split
  all_goals rfl
 ·have h1 : ¬ o.kind = 1 := by omega
  have h2 : ¬ o.kind = 2 := by omega
  simp only [doS, if_neg h1, if_neg h2, if_pos h, doCut, e2, el]
  repeat' split
  all_goals rfl
theorem doS_other (s : Sv) (o : OpS) (h : ¬ (o.kind = 1 ∨ o.kind = 2 ∨ o.kind = 3)) : ∃ n, (doS s o).1 = wNts s n := by
 have h1 : ¬ o.kind = 1 := fun e => h (.inl e)
 have h2 : ¬ o.kind = 2 := fun e => h (.inr (.inl e))
 have h3 : ¬ o.kind = 3 := fun e => h (.inr (.inr e))
 by_cases h7 : o.kind = 7
 ·simp only [doS, if_neg h1, if_neg h2, if_neg h3, if_pos h7, doNeed]
  repeat' split
  all_goals exact ⟨_, rfl⟩
 ·exact ⟨s.notes, asks_same h1 h2 h3 h7⟩
theorem doS_plain (s : Sv) (o : OpS) (h : o.kind = 1 ∨ o.kind = 2 ∨ o.kind = 3) : doS s (plainO o) = doS s o := by
 rcases h with h | h | h
 ·rw [plainO, if_pos h]
  simp only [doS, if_pos h, if_pos (show (1 : Int) = 1 from rfl)]
  rw [if_pos trivial]
 ·have h1 : ¬ o.kind = 1 := by omega
  rw [plainO, if_neg h1, if_pos h]
  simp only [doS, if_neg h1, if_pos h, if_neg (show ¬ (2 : Int) = 1 by decide), if_pos (show (2 : Int) = 2 from rfl)]
  rfl
 ·have h1 : ¬ o.kind = 1 := by omega
  have h2 : ¬ o.kind = 2 := by omega
  rw [plainO, if_neg h1, if_neg h2]
  simp only [doS, if_neg h1, if_neg h2, if_pos h, if_neg (show ¬ (3 : Int) = 1 by decide), if_neg (show ¬ (3 : Int) = 2 by decide), if_pos (show (3 : Int) = 3 from rfl)]
  rfl
/-- What was done can be written. -/
theorem done_chk {s : Sv} {o : OpS} (hk : o.kind = 1 ∨ o.kind = 2 ∨ o.kind = 3) (hw : whoOk o.who = true) (hid : o.kind = 3 → idOk o.id = true) (h : (doS s o).2.code = 0) : chkOp o = 0 := by
 unfold chkOp
 rcases hk with hk | hk | hk
 ·rw [if_pos hk]
  simp only [doS, if_pos hk] at h
  split at h
  ·assumption
  ·exact h
 ·have h1 : ¬ o.kind = 1 := by omega
  rw [if_neg h1, if_pos hk, if_pos hw]
  simp only [doS, if_neg h1, if_pos hk, doPut] at h
  split at h
  ·assumption
  ·exact h
 ·have h1 : ¬ o.kind = 1 := by omega
  have h2 : ¬ o.kind = 2 := by omega
  rw [if_neg h1, if_neg h2, if_pos hk, if_pos (hid hk)]
  simp only [doS, if_neg h1, if_neg h2, if_pos hk, doCut] at h
  split at h
  ·rename_i h0
   have hc := (sMay_zero h0).2.1
   rw [hw, show catOk o.rcd.cats = true from decide_eq_true hc]
   rfl
  ·rename_i h0; exact absurd h h0
def okRun : Sv → List OpS → Prop
 | _, [] => True
 | s, o :: l => (doS s o).2.code = 0 ∧ okRun (doS s o).1 l
theorem okRun_snoc : ∀ (l : List OpS) (s : Sv) (o : OpS), okRun s (l ++ [o]) ↔ okRun s l ∧ (doS (runL s l) o).2.code = 0
 | [], s, o => by simp [okRun, runL]
 | x :: l, s, o => by
  rw [List.cons_append, okRun, okRun, okRun_snoc l]
  constructor
  ·rintro ⟨a, b, c⟩; exact ⟨⟨a, b⟩, c⟩
  ·rintro ⟨⟨a, b⟩, c⟩; exact ⟨a, b, c⟩
theorem okRun_get : ∀ {l : List OpS} {s : Sv} {i : Nat} {o : OpS}, okRun s l → l[i]? = some o → (doS (runL s (l.take i)) o).2.code = 0
 | x :: l, s, 0, o, h, e => by
  simp only [List.getElem?_cons_zero, Option.some.injEq] at e
  subst e
  exact h.1
 | x :: l, s, i + 1, o, h, e => by
  have := okRun_get (i := i) h.2 (by simpa using e)
  exact this
/-- One more: what was done, and can be written, is done by the other one, too. -/
theorem slg_step {s : Sv} {W : List OpS} {n : List Nt} {o : OpS} (hs : s = wNts (runL sv0 (W.map plainO)) n) (hok : okRun sv0 (W.map plainO)) (hk : o.kind = 1 ∨ o.kind = 2 ∨ o.kind = 3) (h : (doS s o).2.code = 0) :
  (∃ m, (doS s o).1 = wNts (runL sv0 ((W ++ [o]).map plainO)) m) ∧ okRun sv0 ((W ++ [o]).map plainO) := by
 rw [List.map_append, List.map_singleton]
 rw [hs, doS_wNts _ _ _ hk] at h ⊢
 refine ⟨⟨n, ?_⟩, (okRun_snoc _ _ _).2 ⟨hok, ?_⟩⟩
 ·rw [runL_add, doS_plain _ _ hk]
 ·rw [doS_plain _ _ hk]; exact h
theorem slg_skip {s : Sv} {W : List OpS} {n : List Nt} {o : OpS} (hs : s = wNts (runL sv0 (W.map plainO)) n) (hk : ¬ (o.kind = 1 ∨ o.kind = 2 ∨ o.kind = 3) ∨ (doS s o).2.code ≠ 0) : ∃ m, (doS s o).1 = wNts (runL sv0 (W.map plainO)) m := by
 rcases hk with hk | hk
 ·obtain ⟨m, e⟩ := doS_other s o hk
  exact ⟨m, by rw [e, hs]; rfl⟩
 ·exact ⟨n, by rw [(wrong_all hk).1, hs]⟩
theorem chk_kind {o : OpS} (h : chkOp o = 0) : o.kind = 1 ∨ o.kind = 2 ∨ o.kind = 3 := by
 unfold chkOp at h
 by_cases h1 : o.kind = 1
 ·exact .inl h1
 ·by_cases h2 : o.kind = 2
  ·exact .inr (.inl h2)
  ·by_cases h3 : o.kind = 3
   ·exact .inr (.inr h3)
   ·rw [if_neg h1, if_neg h2, if_neg h3] at h; cases h
theorem askL_id {l : List (List Int)} {o : OpS} (h : o ∈ askL l) : idOk o.id = true := by
 unfold askL at h
 obtain ⟨c, _, hc⟩ := List.mem_flatMap.1 h
 have h3 := ask1_len3 hc
 obtain ⟨a, b, d, c, rfl⟩ := long_of (show ¬ c.length < 3 by omega)
 simp only [ask1, List.mem_singleton] at hc
 subst hc
 have h3 := (wN_eq d (show 0 < 2 by omega)).2
 simp only
 rcases (show wN d 2 = 0 ∨ wN d 2 = 1 by omega) with e | e <;> rw [e] <;> decide
end Go.Proofs.YtonolfpnidaflaaGreatDoor.E
