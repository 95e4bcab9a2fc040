/- Walks: package log: what is read. No conditions. -/
import Derived.Test.YtonolfpnidaflaaGreatDoorLogW
namespace Go.Proofs.YtonolfpnidaflaaGreatDoor.E
open Go
set_option linter.unusedSimpArgs false
set_option linter.unusedVariables false
set_option linter.unusedSectionVars false
set_option maxRecDepth 20000
set_option maxHeartbeats 1000000
theorem wsOk_split {c : UInt8} {s : ByteArray} (hs : s.size < 4294967281) : wsOk ⟨splitC c s.data.toList, false⟩ := fun x hx => by
 have := splitC_len hx
 rw [← size_eq] at this
 omega
theorem len_empty {α : Type} (l : List α) : ((l.length : Int) == 0) = l.isEmpty := by
 cases l with
 | nil => rfl
 | cons x l => simp; omega
theorem ruleW_len (w : Ws) (h : w.l ≠ []) : (ruleW w).2.l.length < w.l.length := by
 have hn : ∀ w : Ws, (nxt w).2.l.length ≤ w.l.length := fun w => by
  obtain ⟨l, b⟩ := w
  cases l with
  | nil => exact Nat.le_refl _
  | cons s l => simp [nxt]
 have hn1 : (nxt w).2.l.length < w.l.length := by
  obtain ⟨l, b⟩ := w
  cases l with
  | nil => exact absurd rfl h
  | cons s l => simp [nxt]
 have e : ∀ w, (numW w).2.l = (nxt w).2.l := fun w => rfl
 have h1 : (numW w).2.l.length < w.l.length := hn1
 have h2 := hn (numW w).2
 have h3 := hn (numW (numW w).2).2
 have h4 := hn (numW (numW (numW w).2).2).2
 have h5 := hn (numW (numW (numW (numW w).2).2).2).2
 have h6 := hn (numW (numW (numW (numW (numW w).2).2).2).2).2
 rw [← e] at h2 h3 h4 h5
 show (nxt (numW (numW (numW (numW (numW w).2).2).2).2).2).2.l.length < _
 omega
theorem ruleW_ok {w : Ws} (h : wsOk w) : wsOk (ruleW w).2 := (wsOk_nxt (wsOk_num (wsOk_num (wsOk_num (wsOk_num (wsOk_num h)))))).1
abbrev ruC (r : Rl) : List AV := [I r.role, I r.why, I r.fr, I r.to, I r.cats, B r.allow]
theorem parse_ok (s : ByteArray) (hs : s.size < 4294967281) : Ok Tryz.prog 93 [S s] (.tup [opV (parseL s.data.toList).1, B (parseL s.data.toList).2]) := by
 refine Ok.of_wp (rs := [.cell 2 39, .tmp 3]) (n := 132) Tryz.func93 rfl rfl rfl (by simp) fo (by kernel_rfl) ?_
 simp (decide := true) (maxSteps := 4000000) -implicitDefEqProofs only [S0, ↓reduceIte, Int.reduceAdd, Int.reduceSub, Int.reduceToNat, Int.reduceNeg, Nat.reduceAdd, Nat.reduceMul, Nat.reduceSub, reduceCtorEq]
 refine call_eq (Split_ok s 32 hs) ?_
 have h0 := wsOk_split (c := 32) hs
 unfold parseL
 have hL := splitC_num 32 s.data.toList
 rw [← size_eq] at hL
 generalize splitC 32 s.data.toList = L at *
 simp (decide := true) (maxSteps := 4000000) -implicitDefEqProofs only [S0, ↓reduceIte, Int.reduceAdd, Int.reduceSub, Int.reduceToNat, Int.reduceNeg, Nat.reduceAdd, Nat.reduceMul, Nat.reduceSub, reduceCtorEq]
 refine callH (next_ok ⟨L, false⟩) [.l 13] ?_
 unfold parseW
 obtain ⟨h1, _⟩ := wsOk_nxt h0
 have hln : (nxt ⟨L, false⟩).2.l.length ≤ 4294967282 := by
  cases L with
  | nil => simp [nxt]
  | cons x L => simp [nxt] at hL ⊢; omega
 generalize nxt ⟨L, false⟩ = p1 at *
 obtain ⟨c, w⟩ := p1
 simp only at h1 hln
 by_cases c1 : c = [112, 117, 116]
 ·have d1 : decide (bs c = ⟨#[112, 117, 116]⟩) = true := decide_eq_true (by rw [c1]; rfl)
  simp (decide := true) (maxSteps := 4000000) -implicitDefEqProofs only [S0, ↓reduceIte, Int.reduceAdd, Int.reduceSub, Int.reduceToNat, Int.reduceNeg, Nat.reduceAdd, Nat.reduceMul, Nat.reduceSub, reduceCtorEq, toList_beq, d1, c1]
  refine callH (num_ok w h1) [.l 13] ?_
  simp (decide := true) (maxSteps := 4000000) -implicitDefEqProofs only [S0, ↓reduceIte, Int.reduceAdd, Int.reduceSub, Int.reduceToNat, Int.reduceNeg, Nat.reduceAdd, Nat.reduceMul, Nat.reduceSub, reduceCtorEq]
  refine callH (num_ok _ (wsOk_num h1)) [.l 13] ?_
  simp (decide := true) (maxSteps := 4000000) -implicitDefEqProofs only [S0, ↓reduceIte, Int.reduceAdd, Int.reduceSub, Int.reduceToNat, Int.reduceNeg, Nat.reduceAdd, Nat.reduceMul, Nat.reduceSub, reduceCtorEq]
  refine callH (num_ok _ (wsOk_num (wsOk_num h1))) [.l 13] ?_
  have h4 : wsOk (whoW w).2 := wsOk_num (wsOk_num (wsOk_num h1))
  rw [show (numW (numW (numW w).2).2).2 = (whoW w).2 from rfl]
  simp (decide := true) (maxSteps := 4000000) -implicitDefEqProofs only [S0, ↓reduceIte, Int.reduceAdd, Int.reduceSub, Int.reduceToNat, Int.reduceNeg, Nat.reduceAdd, Nat.reduceMul, Nat.reduceSub, reduceCtorEq]
  refine callH (next_ok (whoW w).2) [.l 13] ?_
  obtain ⟨h5, h6⟩ := wsOk_nxt h4
  simp (decide := true) (maxSteps := 4000000) -implicitDefEqProofs only [S0, ↓reduceIte, Int.reduceAdd, Int.reduceSub, Int.reduceToNat, Int.reduceNeg, Nat.reduceAdd, Nat.reduceMul, Nat.reduceSub, reduceCtorEq]
  refine call_eq (recRead_ok (bs (nxt (whoW w).2).1) (by rw [bs_size]; exact h6)) ?_
  rw [bs_list]
  cases hbd : (nxt (whoW w).2).2.bad with
  | true =>
   simp (decide := true) (maxSteps := 4000000) -implicitDefEqProofs only [S0, ↓reduceIte, Int.reduceAdd, Int.reduceSub, Int.reduceToNat, Int.reduceNeg, Nat.reduceAdd, Nat.reduceMul, Nat.reduceSub, reduceCtorEq, hbd]
   exact ⟨⟨rfl, rfl, rfl, rfl, rfl, rfl, rfl, rfl, rfl, rfl, rfl, rfl⟩, B_eq (by simp [putW, endOk, hbd])⟩
  | false =>
   by_cases hr : readC (nxt (whoW w).2).1 = 0
   ·simp (decide := true) (maxSteps := 4000000) -implicitDefEqProofs only [S0, ↓reduceIte, Int.reduceAdd, Int.reduceSub, Int.reduceToNat, Int.reduceNeg, Nat.reduceAdd, Nat.reduceMul, Nat.reduceSub, reduceCtorEq, hbd, hr]
    exact ⟨⟨rfl, rfl, rfl, rfl, rfl, rfl, rfl, rfl, rfl, rfl, rfl, rfl⟩, B_eq (by simp [putW, endOk, hbd, hr, len_empty])⟩
   ·simp (decide := true) (maxSteps := 4000000) -implicitDefEqProofs only [S0, ↓reduceIte, Int.reduceAdd, Int.reduceSub, Int.reduceToNat, Int.reduceNeg, Nat.reduceAdd, Nat.reduceMul, Nat.reduceSub, reduceCtorEq, hbd, hr]
    rw [if_neg (by simp [hr])]
    exact ⟨⟨rfl, rfl, rfl, rfl, rfl, rfl, rfl, rfl, rfl, rfl, rfl, rfl⟩, B_eq (by simp [putW, endOk, hbd, hr])⟩
 ·have d1 : decide (bs c = ⟨#[112, 117, 116]⟩) = false := decide_eq_false (fun e => c1 (bs_inj.1 e))
  by_cases c2 : c = [99, 117, 116]
  ·have d2 : decide (bs c = ⟨#[99, 117, 116]⟩) = true := decide_eq_true (by rw [c2]; rfl)
   simp (decide := true) (maxSteps := 4000000) -implicitDefEqProofs only [S0, ↓reduceIte, Int.reduceAdd, Int.reduceSub, Int.reduceToNat, Int.reduceNeg, Nat.reduceAdd, Nat.reduceMul, Nat.reduceSub, reduceCtorEq, toList_beq, d1, c1, d2, c2]
   refine callH (num_ok w h1) [.l 13] ?_
   simp (decide := true) (maxSteps := 4000000) -implicitDefEqProofs only [S0, ↓reduceIte, Int.reduceAdd, Int.reduceSub, Int.reduceToNat, Int.reduceNeg, Nat.reduceAdd, Nat.reduceMul, Nat.reduceSub, reduceCtorEq]
   refine callH (num_ok _ (wsOk_num h1)) [.l 13] ?_
   simp (decide := true) (maxSteps := 4000000) -implicitDefEqProofs only [S0, ↓reduceIte, Int.reduceAdd, Int.reduceSub, Int.reduceToNat, Int.reduceNeg, Nat.reduceAdd, Nat.reduceMul, Nat.reduceSub, reduceCtorEq]
   refine callH (num_ok _ (wsOk_num (wsOk_num h1))) [.l 13] ?_
   have h4 : wsOk (whoW w).2 := wsOk_num (wsOk_num (wsOk_num h1))
   rw [show (numW (numW (numW w).2).2).2 = (whoW w).2 from rfl]
   simp (decide := true) (maxSteps := 4000000) -implicitDefEqProofs only [S0, ↓reduceIte, Int.reduceAdd, Int.reduceSub, Int.reduceToNat, Int.reduceNeg, Nat.reduceAdd, Nat.reduceMul, Nat.reduceSub, reduceCtorEq]
   refine callH (next_ok (whoW w).2) [.l 13] ?_
   obtain ⟨h5, h6⟩ := wsOk_nxt h4
   simp (decide := true) (maxSteps := 4000000) -implicitDefEqProofs only [S0, ↓reduceIte, Int.reduceAdd, Int.reduceSub, Int.reduceToNat, Int.reduceNeg, Nat.reduceAdd, Nat.reduceMul, Nat.reduceSub, reduceCtorEq]
   refine callH (num_ok _ h5) [.l 13] ?_
   cases hbd : (numW (nxt (whoW w).2).2).2.bad with
   | true =>
    simp (decide := true) (maxSteps := 4000000) -implicitDefEqProofs only [S0, ↓reduceIte, Int.reduceAdd, Int.reduceSub, Int.reduceToNat, Int.reduceNeg, Nat.reduceAdd, Nat.reduceMul, Nat.reduceSub, reduceCtorEq, hbd]
    exact ⟨⟨rfl, rfl, rfl, rfl, rfl, rfl, rfl, rfl, rfl, rfl, rfl, rfl⟩, B_eq (by simp [cutW, endOk, hbd])⟩
   | false =>
    simp (decide := true) (maxSteps := 4000000) -implicitDefEqProofs only [S0, ↓reduceIte, Int.reduceAdd, Int.reduceSub, Int.reduceToNat, Int.reduceNeg, Nat.reduceAdd, Nat.reduceMul, Nat.reduceSub, reduceCtorEq, hbd]
    exact ⟨⟨rfl, rfl, rfl, rfl, rfl, rfl, rfl, rfl, rfl, rfl, rfl, rfl⟩, B_eq (by simp [cutW, endOk, hbd, len_empty])⟩
  ·have d2 : decide (bs c = ⟨#[99, 117, 116]⟩) = false := decide_eq_false (fun e => c2 (bs_inj.1 e))
   by_cases c3 : c = [114, 117, 108, 101, 115]
   ·have d3 : decide (bs c = ⟨#[114, 117, 108, 101, 115]⟩) = true := decide_eq_true (by rw [c3]; rfl)
    simp (decide := true) (maxSteps := 4000000) -implicitDefEqProofs only [S0, ↓reduceIte, Int.reduceAdd, Int.reduceSub, Int.reduceToNat, Int.reduceNeg, Nat.reduceAdd, Nat.reduceMul, Nat.reduceSub, reduceCtorEq, toList_beq, d1, c1, d2, c2, d3, c3]
    refine ALoop.st [2, 4, 5] (fun (_ : List Rl × Ws × Nat) => [.ptr (.l 2) 1 0, .ptr (.l 13) 1 0, .ptr (.l 5) 1 0])
     (fun q => [(.l 2, 1, .cells 39 [I 0, I 0, I 0, I 0, .val (.slice none 0 0), S ⟨#[]⟩, I 0, .val (.slice none 0 0), .val (.slice none 0 0), S ⟨#[]⟩, S ⟨#[]⟩, S ⟨#[]⟩]),
      (.l 13, 1, wsB q.2.1), (.l 5, 1, .cells 39 [I 1, I 0, I 0, I 0, .own (.l 116) 0 6 0 q.1.length, S ⟨#[]⟩, I 0, .val (.slice none 0 0), .val (.slice none 0 0), S ⟨#[]⟩, S ⟨#[]⟩, S ⟨#[]⟩]), (.l 116, 0, .row 54 6 none (q.1.map ruC))])
     (fun q => wsOk q.2.1 ∧ q.2.1.l.length ≤ q.2.2 ∧ q.1.length + q.2.1.l.length ≤ 4294967282 ∧ rulesW w.l.length w = (q.1 ++ (rulesW q.2.2 q.2.1).1, (rulesW q.2.2 q.2.1).2)) (fun q => q.2.2) [.l 116] ([], w, w.l.length)
     (by simp (decide := true) (maxSteps := 4000000) -implicitDefEqProofs only [S0, ↓reduceIte, Int.reduceAdd, Int.reduceSub, Int.reduceToNat, Int.reduceNeg, Nat.reduceAdd, Nat.reduceMul, Nat.reduceSub, reduceCtorEq]) (by simp (decide := true) (maxSteps := 4000000) -implicitDefEqProofs only [S0, ↓reduceIte, Int.reduceAdd, Int.reduceSub, Int.reduceToNat, Int.reduceNeg, Nat.reduceAdd, Nat.reduceMul, Nat.reduceSub, reduceCtorEq]) ⟨h1, Nat.le_refl _, by simp only [List.length_nil]; omega, rfl⟩ ?_
    rintro ⟨rs, v, k⟩ ⟨hv, hk, hn, hu⟩
    simp only at hv hk hn hu
    have tk : List.take rs.length (rs.map ruC) = rs.map ruC := List.take_of_length_le (by simp)
    by_cases hl : v.l = []
    ·have hu' : rulesW w.l.length w = (rs, v) := by
      rw [hu]
      cases k with
      | zero => simp [rulesW]
      | succ k => rw [rulesW, if_neg (by simp [hl])]; simp
     have hl0 : ¬ (v.l.length : Int) > 0 := by rw [hl]; simp
     cases hbd : v.bad with
     | true =>
      simp (decide := true) (maxSteps := 4000000) -implicitDefEqProofs only [S0, ↓reduceIte, Int.reduceAdd, Int.reduceSub, Int.reduceToNat, Int.reduceNeg, Nat.reduceAdd, Nat.reduceMul, Nat.reduceSub, reduceCtorEq, hl0, hbd, tk]
      rw [show rulW w = ({ noOp with kind := 1, rs := rs }, endOk v) by rw [rulW, hu']]
      exact ⟨⟨rfl, rfl, rfl, rfl, rfl, rfl, rfl, rfl, rfl, rfl, rfl, rfl⟩, B_eq (by simp [endOk, hbd])⟩
     | false =>
      simp (decide := true) (maxSteps := 4000000) -implicitDefEqProofs only [S0, ↓reduceIte, Int.reduceAdd, Int.reduceSub, Int.reduceToNat, Int.reduceNeg, Nat.reduceAdd, Nat.reduceMul, Nat.reduceSub, reduceCtorEq, hl0, hbd, tk]
      rw [show rulW w = ({ noOp with kind := 1, rs := rs }, endOk v) by rw [rulW, hu']]
      exact ⟨⟨rfl, rfl, rfl, rfl, rfl, rfl, rfl, rfl, rfl, rfl, rfl, rfl⟩, B_eq (by simp [endOk, hbd, hl])⟩
    ·have hl0 : (v.l.length : Int) > 0 := by
      have := List.length_pos_iff.2 hl
      omega
     cases hbd : v.bad with
     | true =>
      have hu' : rulesW w.l.length w = (rs, v) := by
       rw [hu]
       cases k with
       | zero => simp [rulesW]
       | succ k => rw [rulesW, if_neg (by simp [hbd])]; simp
      simp (decide := true) (maxSteps := 4000000) -implicitDefEqProofs only [S0, ↓reduceIte, Int.reduceAdd, Int.reduceSub, Int.reduceToNat, Int.reduceNeg, Nat.reduceAdd, Nat.reduceMul, Nat.reduceSub, reduceCtorEq, hl0, hbd, tk]
      rw [show rulW w = ({ noOp with kind := 1, rs := rs }, endOk v) by rw [rulW, hu']]
      exact ⟨⟨rfl, rfl, rfl, rfl, rfl, rfl, rfl, rfl, rfl, rfl, rfl, rfl⟩, B_eq (by simp [endOk, hbd])⟩
     | false =>
      obtain ⟨k, rfl⟩ : ∃ k', k = k' + 1 := ⟨k - 1, by have := List.length_pos_iff.2 hl; omega⟩
      have hlt := ruleW_len v hl
      rw [rulesW, if_pos ⟨hl, hbd⟩] at hu
      have inv : wsOk (ruleW v).2 ∧ (ruleW v).2.l.length ≤ k ∧ (rs ++ [(ruleW v).1]).length + (ruleW v).2.l.length ≤ 4294967282 ∧ rulesW w.l.length w = (rs ++ [(ruleW v).1] ++ (rulesW k (ruleW v).2).1, (rulesW k (ruleW v).2).2) := by
       refine ⟨ruleW_ok hv, by omega, by simp; omega, by rw [hu]; simp⟩
      simp (decide := true) (maxSteps := 4000000) -implicitDefEqProofs only [S0, ↓reduceIte, Int.reduceAdd, Int.reduceSub, Int.reduceToNat, Int.reduceNeg, Nat.reduceAdd, Nat.reduceMul, Nat.reduceSub, reduceCtorEq, hl0, hbd, tk]
      refine callH (num_ok v hv) [.l 13] ?_
      simp (decide := true) (maxSteps := 4000000) -implicitDefEqProofs only [S0, ↓reduceIte, Int.reduceAdd, Int.reduceSub, Int.reduceToNat, Int.reduceNeg, Nat.reduceAdd, Nat.reduceMul, Nat.reduceSub, reduceCtorEq]
      refine callH (num_ok _ (wsOk_num hv)) [.l 13] ?_
      simp (decide := true) (maxSteps := 4000000) -implicitDefEqProofs only [S0, ↓reduceIte, Int.reduceAdd, Int.reduceSub, Int.reduceToNat, Int.reduceNeg, Nat.reduceAdd, Nat.reduceMul, Nat.reduceSub, reduceCtorEq]
      refine callH (num_ok _ (wsOk_num (wsOk_num hv))) [.l 13] ?_
      simp (decide := true) (maxSteps := 4000000) -implicitDefEqProofs only [S0, ↓reduceIte, Int.reduceAdd, Int.reduceSub, Int.reduceToNat, Int.reduceNeg, Nat.reduceAdd, Nat.reduceMul, Nat.reduceSub, reduceCtorEq]
      refine callH (num_ok _ (wsOk_num (wsOk_num (wsOk_num hv)))) [.l 13] ?_
      simp (decide := true) (maxSteps := 4000000) -implicitDefEqProofs only [S0, ↓reduceIte, Int.reduceAdd, Int.reduceSub, Int.reduceToNat, Int.reduceNeg, Nat.reduceAdd, Nat.reduceMul, Nat.reduceSub, reduceCtorEq]
      refine callH (num_ok _ (wsOk_num (wsOk_num (wsOk_num (wsOk_num hv))))) [.l 13] ?_
      simp (decide := true) (maxSteps := 4000000) -implicitDefEqProofs only [S0, ↓reduceIte, Int.reduceAdd, Int.reduceSub, Int.reduceToNat, Int.reduceNeg, Nat.reduceAdd, Nat.reduceMul, Nat.reduceSub, reduceCtorEq]
      refine callH (next_ok (numW (numW (numW (numW (numW v).2).2).2).2).2) [.l 13] ?_
      obtain ⟨F, hF⟩ : ∃ F, F = nxt (numW (numW (numW (numW (numW v).2).2).2).2).2 := ⟨_, rfl⟩
      have e1 : (ruleW v).1 = ⟨(numW v).1, (numW (numW v).2).1, (numW (numW (numW v).2).2).1, (numW (numW (numW (numW v).2).2).2).1, (numW (numW (numW (numW (numW v).2).2).2).2).1, decide (F.1 = [121, 101, 115])⟩ := by rw [hF]; rfl
      have e2 : (ruleW v).2.l = F.2.l := by rw [hF]; rfl
      have e3 : (ruleW v).2.bad = (F.2.bad || !(decide (F.1 = [121, 101, 115]) || decide (F.1 = [110, 111]))) := by rw [hF]; rfl
      rw [← hF]
      by_cases y1 : F.1 = [121, 101, 115]
      ·have y2 : decide (bs F.1 = ⟨#[121, 101, 115]⟩) = true := decide_eq_true (by rw [y1]; rfl)
       rw [decide_eq_true y1] at e1 e3
       cases fb : F.2.bad with
       | true =>
        rw [fb] at e3
        simp (decide := true) (maxSteps := 4000000) -implicitDefEqProofs only [S0, ↓reduceIte, Int.reduceAdd, Int.reduceSub, Int.reduceToNat, Int.reduceNeg, Nat.reduceAdd, Nat.reduceMul, Nat.reduceSub, reduceCtorEq, toList_beq, y2, fb, tk]
        have e4 : (ruleW v).2.bad = true := by rw [e3]; simp
        exact ⟨by omega, Nxt.mk [] (rs ++ [(ruleW v).1], (ruleW v).2, k) (by simp (decide := true) (maxSteps := 4000000) -implicitDefEqProofs only [S0, ↓reduceIte, Int.reduceAdd, Int.reduceSub, Int.reduceToNat, Int.reduceNeg, Nat.reduceAdd, Nat.reduceMul, Nat.reduceSub, reduceCtorEq]) (by simp (decide := true) (maxSteps := 4000000) -implicitDefEqProofs only [S0, ↓reduceIte, Int.reduceAdd, Int.reduceSub, Int.reduceToNat, Int.reduceNeg, Nat.reduceAdd, Nat.reduceMul, Nat.reduceSub, reduceCtorEq, e1, e2, e4]; try simp) inv (by simp only; omega)⟩
       | false =>
        rw [fb] at e3
        simp (decide := true) (maxSteps := 4000000) -implicitDefEqProofs only [S0, ↓reduceIte, Int.reduceAdd, Int.reduceSub, Int.reduceToNat, Int.reduceNeg, Nat.reduceAdd, Nat.reduceMul, Nat.reduceSub, reduceCtorEq, toList_beq, y2, fb, tk]
        have e4 : (ruleW v).2.bad = false := by rw [e3]; simp
        exact ⟨by omega, Nxt.mk [] (rs ++ [(ruleW v).1], (ruleW v).2, k) (by simp (decide := true) (maxSteps := 4000000) -implicitDefEqProofs only [S0, ↓reduceIte, Int.reduceAdd, Int.reduceSub, Int.reduceToNat, Int.reduceNeg, Nat.reduceAdd, Nat.reduceMul, Nat.reduceSub, reduceCtorEq]) (by simp (decide := true) (maxSteps := 4000000) -implicitDefEqProofs only [S0, ↓reduceIte, Int.reduceAdd, Int.reduceSub, Int.reduceToNat, Int.reduceNeg, Nat.reduceAdd, Nat.reduceMul, Nat.reduceSub, reduceCtorEq, e1, e2, e4]; try simp) inv (by simp only; omega)⟩
      ·have y2 : decide (bs F.1 = ⟨#[121, 101, 115]⟩) = false := decide_eq_false (fun e => y1 (bs_inj.1 e))
       rw [decide_eq_false y1] at e1 e3
       cases fb : F.2.bad with
       | true =>
        rw [fb] at e3
        simp (decide := true) (maxSteps := 4000000) -implicitDefEqProofs only [S0, ↓reduceIte, Int.reduceAdd, Int.reduceSub, Int.reduceToNat, Int.reduceNeg, Nat.reduceAdd, Nat.reduceMul, Nat.reduceSub, reduceCtorEq, toList_beq, y2, fb, tk]
        have e4 : (ruleW v).2.bad = true := by rw [e3]; simp
        exact ⟨by omega, Nxt.mk [] (rs ++ [(ruleW v).1], (ruleW v).2, k) (by simp (decide := true) (maxSteps := 4000000) -implicitDefEqProofs only [S0, ↓reduceIte, Int.reduceAdd, Int.reduceSub, Int.reduceToNat, Int.reduceNeg, Nat.reduceAdd, Nat.reduceMul, Nat.reduceSub, reduceCtorEq]) (by simp (decide := true) (maxSteps := 4000000) -implicitDefEqProofs only [S0, ↓reduceIte, Int.reduceAdd, Int.reduceSub, Int.reduceToNat, Int.reduceNeg, Nat.reduceAdd, Nat.reduceMul, Nat.reduceSub, reduceCtorEq, e1, e2, e4]; try simp) inv (by simp only; omega)⟩
       | false =>
        rw [fb] at e3
        by_cases z1 : F.1 = [110, 111]
        ·have z2 : decide (bs F.1 = ⟨#[110, 111]⟩) = true := decide_eq_true (by rw [z1]; rfl)
         rw [decide_eq_true z1] at e3
         simp (decide := true) (maxSteps := 4000000) -implicitDefEqProofs only [S0, ↓reduceIte, Int.reduceAdd, Int.reduceSub, Int.reduceToNat, Int.reduceNeg, Nat.reduceAdd, Nat.reduceMul, Nat.reduceSub, reduceCtorEq, toList_beq, y2, z2, fb, tk]
         have e4 : (ruleW v).2.bad = false := by rw [e3]; simp
         exact ⟨by omega, Nxt.mk [] (rs ++ [(ruleW v).1], (ruleW v).2, k) (by simp (decide := true) (maxSteps := 4000000) -implicitDefEqProofs only [S0, ↓reduceIte, Int.reduceAdd, Int.reduceSub, Int.reduceToNat, Int.reduceNeg, Nat.reduceAdd, Nat.reduceMul, Nat.reduceSub, reduceCtorEq]) (by simp (decide := true) (maxSteps := 4000000) -implicitDefEqProofs only [S0, ↓reduceIte, Int.reduceAdd, Int.reduceSub, Int.reduceToNat, Int.reduceNeg, Nat.reduceAdd, Nat.reduceMul, Nat.reduceSub, reduceCtorEq, e1, e2, e4]; try simp) inv (by simp only; omega)⟩
        ·have z2 : decide (bs F.1 = ⟨#[110, 111]⟩) = false := decide_eq_false (fun e => z1 (bs_inj.1 e))
         rw [decide_eq_false z1] at e3
         simp (decide := true) (maxSteps := 4000000) -implicitDefEqProofs only [S0, ↓reduceIte, Int.reduceAdd, Int.reduceSub, Int.reduceToNat, Int.reduceNeg, Nat.reduceAdd, Nat.reduceMul, Nat.reduceSub, reduceCtorEq, toList_beq, y2, z2, fb, tk]
         have e4 : (ruleW v).2.bad = true := by rw [e3]; simp
         exact ⟨by omega, Nxt.mk [] (rs ++ [(ruleW v).1], (ruleW v).2, k) (by simp (decide := true) (maxSteps := 4000000) -implicitDefEqProofs only [S0, ↓reduceIte, Int.reduceAdd, Int.reduceSub, Int.reduceToNat, Int.reduceNeg, Nat.reduceAdd, Nat.reduceMul, Nat.reduceSub, reduceCtorEq]) (by simp (decide := true) (maxSteps := 4000000) -implicitDefEqProofs only [S0, ↓reduceIte, Int.reduceAdd, Int.reduceSub, Int.reduceToNat, Int.reduceNeg, Nat.reduceAdd, Nat.reduceMul, Nat.reduceSub, reduceCtorEq, e1, e2, e4]; try simp) inv (by simp only; omega)⟩
   ·have d3 : decide (bs c = ⟨#[114, 117, 108, 101, 115]⟩) = false := decide_eq_false (fun e => c3 (bs_inj.1 e))
    simp (decide := true) (maxSteps := 4000000) -implicitDefEqProofs only [S0, ↓reduceIte, Int.reduceAdd, Int.reduceSub, Int.reduceToNat, Int.reduceNeg, Nat.reduceAdd, Nat.reduceMul, Nat.reduceSub, reduceCtorEq, toList_beq, d1, c1, d2, c2, d3, c3]
    repeat' constructor
end Go.Proofs.YtonolfpnidaflaaGreatDoor.E
