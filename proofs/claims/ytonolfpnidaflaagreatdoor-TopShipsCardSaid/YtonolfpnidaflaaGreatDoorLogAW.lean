/- Walks: log.All, lists of operations. No conditions. -/
import Derived.Test.YtonolfpnidaflaaGreatDoorLogA
import Derived.Test.YtonolfpnidaflaaGreatDoorOpE
namespace Go.Proofs.YtonolfpnidaflaaGreatDoor.E
open Go
set_option linter.unusedSimpArgs false
set_option linter.unusedVariables false
set_option linter.unusedSectionVars false
set_option maxRecDepth 20000
set_option maxHeartbeats 1000000
def opLen (o : OpS) : Prop := o.rs.length ≤ 1000000000000 ∧ o.rcd.fields.length ≤ 1000000000000 ∧ o.rcd.refs.length ≤ 1000000000000
theorem logAll_ok (s : ByteArray) (hs : s.size < 4294967281) : Ok Tryz.prog 13 [S s] (.tup [opsV (allT s.data.toList).ops, I (allT s.data.toList).n, I (allT s.data.toList).e]) := by
 refine Ok.of_wp (rs := [.tmp 2, .tmp 3, .tmp 4]) (n := 39) Tryz.func13 rfl rfl rfl (by simp) fo (by kernel_rfl) ?_
 have hsz := size_eq s
 unfold allT
 by_cases hbig : 20000 < s.data.toList.length
 ·have hb : (s.size : Int) > 20000 := by omega
  rw [if_pos hbig]
  simp (decide := true) (maxSteps := 4000000) -implicitDefEqProofs only [S0, ↓reduceIte, Int.reduceAdd, Int.reduceSub, Int.reduceToNat, Int.reduceNeg, Nat.reduceAdd, Nat.reduceMul, Nat.reduceSub, reduceCtorEq, hb]
  rfl
 ·have hb : ¬ (s.size : Int) > 20000 := by omega
  rw [if_neg hbig]
  simp (decide := true) (maxSteps := 4000000) -implicitDefEqProofs only [S0, ↓reduceIte, Int.reduceAdd, Int.reduceSub, Int.reduceToNat, Int.reduceNeg, Nat.reduceAdd, Nat.reduceMul, Nat.reduceSub, reduceCtorEq, hb]
  refine ALoop.st [0, 5, 6] (fun (q : Nat × List OpS) => [S s, .own (.l 33) 0 12 0 q.2.length, I q.1]) (fun q => [(.l 33, 0, .row 39 12 none (q.2.map opC'))])
   (fun q => q.1 ≤ s.size ∧ q.2.length ≤ q.1 ∧ lgS s.data.toList = if (lgS (s.data.toList.drop q.1)).e = 0 then ⟨q.2 ++ (lgS (s.data.toList.drop q.1)).ops, q.1 + (lgS (s.data.toList.drop q.1)).n, 0⟩ else ⟨[], 0, (lgS (s.data.toList.drop q.1)).e⟩) (fun q => s.size - q.1) [.l 33] (0, []) (by simp (decide := true) (maxSteps := 4000000) -implicitDefEqProofs only [S0, ↓reduceIte, Int.reduceAdd, Int.reduceSub, Int.reduceToNat, Int.reduceNeg, Nat.reduceAdd, Nat.reduceMul, Nat.reduceSub, reduceCtorEq]; try rfl) (by simp (decide := true) (maxSteps := 4000000) -implicitDefEqProofs only [S0, ↓reduceIte, Int.reduceAdd, Int.reduceSub, Int.reduceToNat, Int.reduceNeg, Nat.reduceAdd, Nat.reduceMul, Nat.reduceSub, reduceCtorEq]) ⟨by simp only; omega, by simp, ?_⟩ ?_
  ·have := lgS_log (l := []) (by simp) s.data.toList
   simpa [logL] using this
  rintro ⟨u, O⟩ ⟨hu, hO, hall⟩
  simp only at hu hO hall
  by_cases hlt : u < s.size
  ·have h' : (u : Int) < s.size := by omega
   have hex : s.extract u s.size = bs (s.data.toList.drop u) := ba_ext (by rw [ba_extract, bs_list, List.take_of_length_le (by omega)])
   have hdne : s.data.toList.drop u ≠ [] := fun e => by
    have := congrArg List.length e
    rw [List.length_drop] at this
    simp at this
    omega
   have tk : List.take O.length (O.map opC') = O.map opC' := List.take_of_length_le (by simp)
   have hlr : (s.data.toList.drop u).length = s.size - u := by rw [List.length_drop, hsz]
   simp (decide := true) (maxSteps := 4000000) -implicitDefEqProofs only [S0, ↓reduceIte, Int.reduceAdd, Int.reduceSub, Int.reduceToNat, Int.reduceNeg, Nat.reduceAdd, Nat.reduceMul, Nat.reduceSub, reduceCtorEq, h', hex]
   refine ⟨by omega, Int.le_refl _, ?_⟩
   refine call_eq (logRead_ok (bs (s.data.toList.drop u)) (by rw [bs_size]; omega)) ?_
   rw [bs_list]
   generalize hr : s.data.toList.drop u = r at *
   by_cases h7 : lnC r = 7
   ·have h70 : lgS r = ⟨[], 0, 0⟩ := lgS_stop (.inr h7)
    rw [h70] at hall
    simp only [if_true, List.append_nil, Nat.add_zero] at hall
    rw [hall]
    simp (decide := true) (maxSteps := 4000000) -implicitDefEqProofs only [S0, ↓reduceIte, Int.reduceAdd, Int.reduceSub, Int.reduceToNat, Int.reduceNeg, Nat.reduceAdd, Nat.reduceMul, Nat.reduceSub, reduceCtorEq, h7, tk]
   ·by_cases h0 : lnC r = 0
    ·have hst := lgS_step h0
     obtain ⟨p1, p2⟩ := lnN_pos h0
     obtain ⟨n, hn⟩ : ∃ n : Nat, lnN r = n := ⟨(lnN r).toNat, by omega⟩
     rw [hn, Int.toNat_natCast] at hst p1 p2
     have w1 : IntKind.i64.wrap ((u : Int) + (n : Int)) = ((u + n : Nat) : Int) := by rw [wr_i64 (by omega) (by omega)]; omega
     rw [hn]
     simp (decide := true) (maxSteps := 4000000) -implicitDefEqProofs only [S0, ↓reduceIte, Int.reduceAdd, Int.reduceSub, Int.reduceToNat, Int.reduceNeg, Nat.reduceAdd, Nat.reduceMul, Nat.reduceSub, reduceCtorEq, h0, tk, w1]
     refine ⟨by omega, Nxt.mk [] (u + n, O ++ [lnO r]) (by simp (decide := true) (maxSteps := 4000000) -implicitDefEqProofs only [S0, ↓reduceIte, Int.reduceAdd, Int.reduceSub, Int.reduceToNat, Int.reduceNeg, Nat.reduceAdd, Nat.reduceMul, Nat.reduceSub, reduceCtorEq]) (by simp (decide := true) (maxSteps := 4000000) -implicitDefEqProofs only [S0, ↓reduceIte, Int.reduceAdd, Int.reduceSub, Int.reduceToNat, Int.reduceNeg, Nat.reduceAdd, Nat.reduceMul, Nat.reduceSub, reduceCtorEq]; simp) ⟨by simp only; omega, by simp; omega, ?_⟩ (by simp only; omega)⟩
     simp only
     rw [← List.drop_drop, hr, hall, hst]
     unfold comb
     by_cases hq : (lgS (r.drop n)).e = 0
     ·simp [hq, Nat.add_assoc]
     ·simp [hq]
    ·have hbd := lgS_bad hdne h7 h0
     rw [hbd] at hall
     simp only [if_neg h0] at hall
     rw [hall]
     simp (decide := true) (maxSteps := 4000000) -implicitDefEqProofs only [S0, ↓reduceIte, Int.reduceAdd, Int.reduceSub, Int.reduceToNat, Int.reduceNeg, Nat.reduceAdd, Nat.reduceMul, Nat.reduceSub, reduceCtorEq, h7, h0]
     rfl
  ·have h' : ¬ (u : Int) < s.size := by omega
   have hd : s.data.toList.drop u = [] := List.drop_eq_nil_of_le (by omega)
   have tk : List.take O.length (O.map opC') = O.map opC' := List.take_of_length_le (by simp)
   rw [hd, lgS_stop (.inl rfl)] at hall
   simp only [if_true, List.append_nil, Nat.add_zero] at hall
   rw [hall]
   simp (decide := true) (maxSteps := 4000000) -implicitDefEqProofs only [S0, ↓reduceIte, Int.reduceAdd, Int.reduceSub, Int.reduceToNat, Int.reduceNeg, Nat.reduceAdd, Nat.reduceMul, Nat.reduceSub, reduceCtorEq, h', tk]
end Go.Proofs.YtonolfpnidaflaaGreatDoor.E
