/- Plain law: logs, line behind line. No conditions. -/
import Derived.Test.YtonolfpnidaflaaGreatDoorLogM
namespace Go.Proofs.YtonolfpnidaflaaGreatDoor.E
open Go
set_option linter.unusedSimpArgs false
set_option linter.unusedVariables false
set_option linter.unusedSectionVars false
set_option maxRecDepth 20000
structure AllT where
 ops : List OpS
 n : Nat
 e : Int
def comb (o : OpS) (n : Nat) (q : AllT) : AllT := if q.e = 0 then ⟨o :: q.ops, n + q.n, 0⟩ else ⟨[], 0, q.e⟩
/-- What a text of lines says, from here on. -/
def allR : Nat → List UInt8 → AllT
 | 0, _ => ⟨[], 0, 0⟩
 | k + 1, s => if s = [] ∨ lnC s = 7 then ⟨[], 0, 0⟩ else if lnC s = 0 then comb (lnO s) (lnN s).toNat (allR k (s.drop (lnN s).toNat)) else ⟨[], 0, lnC s⟩
def lgS (s : List UInt8) : AllT := allR s.length s
def allT (s : List UInt8) : AllT := if 20000 < s.length then ⟨[], 0, 2⟩ else lgS s
def logL (l : List OpS) : List UInt8 := l.flatMap lineL
theorem lineL_pos (o : OpS) : 0 < (lineL o).length := by simp [lineL]; omega
theorem lnN_pos {s : List UInt8} (h : lnC s = 0) : 0 < (lnN s).toNat ∧ (lnN s).toNat ≤ s.length := by
 obtain ⟨_, r, g2, g3⟩ := ln_inv h
 have := lineL_pos (lnO s)
 have hl := congrArg List.length g2
 rw [List.length_append] at hl
 rw [g3, Int.toNat_natCast]
 omega
/-- More rounds than there are bytes make no difference. -/
theorem allR_one : ∀ (k : Nat) (s : List UInt8), s.length ≤ k → allR k s = allR (k + 1) s
 | 0, s, h => by
  obtain rfl := List.length_eq_zero_iff.1 (show s.length = 0 by omega)
  simp [allR]
 | k + 1, s, h => by
  rw [allR, allR]
  by_cases h1 : s = [] ∨ lnC s = 7
  ·rw [if_pos h1, if_pos h1]
  ·rw [if_neg h1, if_neg h1]
   by_cases h2 : lnC s = 0
   ·rw [if_pos h2, if_pos h2, allR_one k _ (by
     have := lnN_pos h2
     rw [List.length_drop]; omega)]
   ·rw [if_neg h2, if_neg h2]
theorem allR_fuel {s : List UInt8} : ∀ (d : Nat), allR (s.length + d) s = lgS s
 | 0 => rfl
 | d + 1 => by rw [← allR_fuel d, ← Nat.add_assoc, ← allR_one _ _ (by omega)]
theorem allR_S {k : Nat} {s : List UInt8} (h : s.length ≤ k) : allR k s = lgS s := by
 obtain ⟨d, rfl⟩ : ∃ d, k = s.length + d := ⟨k - s.length, by omega⟩
 exact allR_fuel d
theorem lgS_eq (s : List UInt8) : lgS s = if s = [] ∨ lnC s = 7 then ⟨[], 0, 0⟩ else if lnC s = 0 then comb (lnO s) (lnN s).toNat (lgS (s.drop (lnN s).toNat)) else ⟨[], 0, lnC s⟩ := by
 rw [← allR_fuel 1, allR]
 by_cases h1 : s = [] ∨ lnC s = 7
 ·rw [if_pos h1, if_pos h1]
 ·rw [if_neg h1, if_neg h1]
  by_cases h2 : lnC s = 0
  ·rw [if_pos h2, if_pos h2, allR_S (by rw [List.length_drop]; omega)]
  ·rw [if_neg h2, if_neg h2]
theorem lgS_stop {s : List UInt8} (h : s = [] ∨ lnC s = 7) : lgS s = ⟨[], 0, 0⟩ := by rw [lgS_eq, if_pos h]
theorem lgS_step {s : List UInt8} (h : lnC s = 0) : lgS s = comb (lnO s) (lnN s).toNat (lgS (s.drop (lnN s).toNat)) := by
 have hn : ¬ (s = [] ∨ lnC s = 7) := by
  rintro (h1 | h1)
  ·have := lnN_pos h; rw [h1] at this; simp at this; omega
  ·omega
 rw [lgS_eq, if_neg hn, if_pos h]
theorem lgS_bad {s : List UInt8} (h1 : s ≠ []) (h2 : lnC s ≠ 7) (h3 : lnC s ≠ 0) : lgS s = ⟨[], 0, lnC s⟩ := by
 rw [lgS_eq, if_neg (by simp [h1, h2]), if_neg h3]
theorem lgS_line {o : OpS} (h : chkOp o = 0) (t : List UInt8) : lgS (lineL o ++ t) = comb (plainO o) (lineL o).length (lgS t) := by
 obtain ⟨h1, h2, h3⟩ := ln_fwd h t
 rw [lgS_step h1, h2, h3, Int.toNat_natCast, List.drop_left]
theorem comb_more (l : List OpS) (q : AllT) (hq : q.e = 0) (o : OpS) (n m : Nat) : comb o n ⟨l ++ q.ops, m + q.n, 0⟩ = ⟨o :: l ++ q.ops, n + m + q.n, 0⟩ := by
 rw [comb, if_pos rfl]
 simp [Nat.add_assoc]
/-- A log, and what is behind it. -/
theorem lgS_log : ∀ {l : List OpS}, (∀ o ∈ l, chkOp o = 0) → ∀ t : List UInt8, lgS (logL l ++ t) = if (lgS t).e = 0 then ⟨l.map plainO ++ (lgS t).ops, (logL l).length + (lgS t).n, 0⟩ else ⟨[], 0, (lgS t).e⟩
 | [], _, t => by
  show lgS t = _
  split
  ·rename_i h
   cases hq : lgS t
   rw [hq] at h
   simp only at h
   simp [logL, h]
  ·rename_i h
   -- an error, with nothing read
   have key : ∀ (k : Nat) (s : List UInt8), (allR k s).e ≠ 0 → (allR k s).ops = [] ∧ (allR k s).n = 0 := by
    intro k
    induction k with
    | zero => intro s h; exact absurd rfl h
    | succ k ih =>
     intro s h
     rw [allR] at h ⊢
     split
     ·rename_i h1; rw [if_pos h1] at h; exact absurd rfl h
     ·split
      ·rename_i h1 h2
       rw [if_neg h1, if_pos h2] at h
       unfold comb at h ⊢
       split
       ·rename_i h3; rw [if_pos h3] at h; exact absurd rfl h
       ·exact ⟨rfl, rfl⟩
      ·exact ⟨rfl, rfl⟩
   obtain ⟨k1, k2⟩ := key _ _ h
   have k1' : (lgS t).ops = [] := k1
   have k2' : (lgS t).n = 0 := k2
   cases hq : lgS t
   rw [hq] at k1' k2'
   simp only at k1' k2'
   rw [k1', k2']
 | o :: l, h, t => by
  have ih := lgS_log (l := l) (fun x hx => h x (List.mem_cons_of_mem _ hx)) t
  rw [logL, List.flatMap_cons, List.append_assoc, lgS_line (h o (by simp))]
  have e : l.flatMap lineL = logL l := rfl
  rw [e, ih]
  split
  ·rw [comb, if_pos rfl]
   simp [Nat.add_assoc]
  ·rename_i hq
   rw [comb, if_neg hq]
/-- The lines that are written, as long as there is room. -/
def keepW : Nat → List OpS → List OpS
 | _, [] => []
 | n, o :: l => if chkOp o = 0 ∧ n + (lineL o).length ≤ 20000 then o :: keepW (n + (lineL o).length) l else keepW n l
theorem keepW_ok : ∀ (n : Nat) (l : List OpS), ∀ o ∈ keepW n l, chkOp o = 0
 | _, [], o, h => by cases h
 | n, x :: l, o, h => by
  rw [keepW] at h
  split at h
  ·rename_i h1
   rcases List.mem_cons.1 h with rfl | h
   ·exact h1.1
   ·exact keepW_ok _ l o h
  ·exact keepW_ok _ l o h
theorem keepW_len : ∀ (n : Nat) (l : List OpS), n ≤ 20000 → n + (logL (keepW n l)).length ≤ 20000
 | n, [], h => by simpa [keepW, logL] using h
 | n, x :: l, h => by
  rw [keepW]
  split
  ·rename_i h1
   have := keepW_len (n + (lineL x).length) l h1.2
   simp only [logL, List.flatMap_cons, List.length_append] at this ⊢
   omega
  ·exact keepW_len n l h
theorem logL_app (a b : List OpS) : logL (a ++ b) = logL a ++ logL b := by simp [logL]
theorem log_num : ∀ (l : List OpS), l.length ≤ (logL l).length
 | [] => Nat.le_refl _
 | o :: l => by
  have := log_num l
  have := lineL_pos o
  simp only [logL, List.flatMap_cons, List.length_append, List.length_cons] at *
  omega
/-- Each line has one end. -/
theorem count_line {o : OpS} (h : chkOp o = 0) : (lineL o).count 10 = 1 := by
 rw [lineL_body, List.count_append, List.count_eq_zero.2 (body_no (opW_of h))]
 rfl
theorem count_log : ∀ {l : List OpS}, (∀ o ∈ l, chkOp o = 0) → (logL l).count 10 = l.length
 | [], _ => rfl
 | o :: l, h => by
  rw [logL, List.flatMap_cons, List.count_append, count_line (h o (by simp))]
  have := count_log (l := l) fun x hx => h x (List.mem_cons_of_mem _ hx)
  rw [show (l.flatMap lineL).count 10 = l.length from this]
  simp; omega
/-- Cut off anywhere: whole lines, and a part of one. -/
theorem cut_log : ∀ {l : List OpS}, (∀ o ∈ l, chkOp o = 0) → ∀ (c : Nat), c ≤ (logL l).length → ∃ m t, m ≤ l.length ∧ (logL l).take c = logL (l.take m) ++ t ∧ (10 : UInt8) ∉ t ∧ (logL (l.take m)).length ≤ c
 | [], _, c, hc => ⟨0, [], Nat.le_refl _, by simp [logL], by simp, by simp [logL]⟩
 | o :: l, h, c, hc => by
  by_cases hlt : c < (lineL o).length
  ·refine ⟨0, (lineL o).take c, Nat.zero_le _, ?_, ?_, by simp [logL]⟩
   ·rw [logL, List.flatMap_cons, List.take_append_of_le_length (by omega)]
    simp [logL]
   ·rw [lineL_body] at hlt ⊢
    rw [List.length_append, List.length_singleton] at hlt
    rw [List.take_append_of_le_length (by omega)]
    intro hx
    exact body_no (opW_of (h o (by simp))) (List.mem_of_mem_take hx)
  ·have hl : (logL (o :: l)).length = (lineL o).length + (logL l).length := by simp [logL]
   obtain ⟨m, t, h1, h2, h3, h4⟩ := cut_log (l := l) (fun x hx => h x (List.mem_cons_of_mem _ hx)) (c - (lineL o).length) (by omega)
   refine ⟨m + 1, t, by simp; omega, ?_, h3, ?_⟩
   ·have e : logL (o :: l) = lineL o ++ logL l := by simp [logL]
    have e2 : logL ((o :: l).take (m + 1)) = lineL o ++ logL (l.take m) := by simp [logL]
    rw [e, e2, List.take_append, List.take_of_length_le (by omega), h2, List.append_assoc]
   ·have e2 : logL ((o :: l).take (m + 1)) = lineL o ++ logL (l.take m) := by simp [logL]
    rw [e2, List.length_append]
    omega
theorem lnC_short {t : List UInt8} (h : (10 : UInt8) ∉ t) : lgS t = ⟨[], 0, 0⟩ := lgS_stop (.inr (lnC_none h).1)
end Go.Proofs.YtonolfpnidaflaaGreatDoor.E
