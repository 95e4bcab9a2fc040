/- Walks: log.Read. No conditions. -/
import Derived.Test.YtonolfpnidaflaaGreatDoorLogR
namespace Go.Proofs.YtonolfpnidaflaaGreatDoor.E
open Go
set_option linter.unusedSimpArgs false
set_option linter.unusedVariables false
set_option linter.unusedSectionVars false
set_option maxRecDepth 20000
set_option maxHeartbeats 1000000
theorem li_cases (l : List UInt8) : Lib.lastIndex l [32, 61] = -1 ∨ ∃ k : Nat, Lib.lastIndex l [32, 61] = k ∧ k + 2 ≤ l.length ∧ Lib.occAt l [32, 61] k = true := by
 unfold Lib.lastIndex
 split
 ·rename_i h
  rcases Lib.lastOcc_spec l [32, 61] (l.length - 2 + 1) with ⟨h1, _⟩ | ⟨i, h1, h2, h3, _⟩
  ·exact .inl h1
  ·simp only [List.length_cons, List.length_nil] at h
   exact .inr ⟨i, h2, by omega, h3⟩
 ·exact .inl rfl
theorem lineC_none {l : List UInt8} (h : Lib.lastIndex l [32, 61] = -1) : lineC l = 10 := by
 rw [lineC, h]; rfl
theorem lineC_some {l : List UInt8} {k : Nat} (h : Lib.lastIndex l [32, 61] = k) : lineC l = lineR (sumOk (l.drop (k + 2))) (l.take k) := by
 rw [lineC, h, if_neg (by omega), Int.toNat_natCast]
theorem lineO_some {l : List UInt8} {k : Nat} (h : Lib.lastIndex l [32, 61] = k) : lineO l = if lineC l = 0 then (parseL (l.take k)).1 else noOp := by
 rw [lineO, h, Int.toNat_natCast]
theorem ex_drop {l p r : List UInt8} {s : ByteArray} (hs : s.data.toList = l) (hl : l = p ++ 10 :: r) (k : Nat) : s.extract (k + 2) p.length = bs (p.drop (k + 2)) := by
 apply ba_ext
 rw [ba_extract, hs, hl, List.take_left]
 rfl
theorem ex_take {l p r : List UInt8} {s : ByteArray} (hs : s.data.toList = l) (hl : l = p ++ 10 :: r) {k : Nat} (hk : k ≤ p.length) : s.extract 0 k = bs (p.take k) := by
 apply ba_ext
 rw [ba_extract, hs, hl, List.take_append_of_le_length hk]
 rfl
theorem IndexNl_ok (s : ByteArray) : Ok Tryz.prog 91 [S s, .val (.int .u8 10)] (I (Lib.indexByte s.data.toList 10)) := IndexByte_ok s 10
theorem logRead_ok (s : ByteArray) (hs : s.size < 4294967281) : Ok Tryz.prog 49 [S s] (.tup [opV (lnO s.data.toList), I (lnN s.data.toList), I (lnC s.data.toList)]) := by
 refine Ok.of_wp (rs := [.cell 2 39, .tmp 3, .tmp 4]) (n := 80) Tryz.func49 rfl rfl rfl (by simp) fo (by kernel_rfl) ?_
 simp (decide := true) (maxSteps := 4000000) -implicitDefEqProofs only [S0, ↓reduceIte, Int.reduceAdd, Int.reduceSub, Int.reduceToNat, Int.reduceNeg, Nat.reduceAdd, Nat.reduceMul, Nat.reduceSub, reduceCtorEq]
 refine call_eq (IndexNl_ok s) ?_
 have hl0 := size_eq s
 generalize hls : s.data.toList = l at *
 by_cases h10 : (10 : UInt8) ∈ l
 ·obtain ⟨p, r, hl, hp⟩ := List.eq_append_cons_of_mem h10
  have hib : Lib.indexByte l 10 = p.length := by rw [hl]; exact ib_hit hp
  have hlen : l.length = p.length + r.length + 1 := by rw [hl]; simp; omega
  have e1 : s.extract 0 p.length = bs p := by rw [ex_take hls hl (Nat.le_refl _), List.take_length]
  have ht : l.take p.length = p := by rw [hl, List.take_left]
  have hn0 : ¬ (p.length : Int) < 0 := by omega
  have kC : lnC l = lineC p := by rw [lnC, hib, if_neg hn0, Int.toNat_natCast, ht]
  have kO : lnO l = if lineC p = 0 then lineO p else noOp := by rw [lnO, kC, hib, Int.toNat_natCast, ht]
  have kN : lnN l = if lineC p = 0 then ((p.length : Nat) : Int) + 1 else 0 := by rw [lnN, kC, hib]
  rw [hib, kC, kO, kN]
  simp (decide := true) (maxSteps := 4000000) -implicitDefEqProofs only [S0, ↓reduceIte, Int.reduceAdd, Int.reduceSub, Int.reduceToNat, Int.reduceNeg, Nat.reduceAdd, Nat.reduceMul, Nat.reduceSub, reduceCtorEq, hn0, e1]
  refine ⟨by omega, ?_⟩
  refine call_eq (LastIndex_ok (bs p) ⟨#[32, 61]⟩ (by rw [bs_size]; omega)) ?_
  rw [bs_list]
  rcases li_cases p with hk | ⟨k, hk, hkl, _⟩
  ·rw [show Lib.lastIndex p (⟨#[32, 61]⟩ : ByteArray).data.toList = -1 from hk, lineC_none hk]
   simp (decide := true) (maxSteps := 4000000) -implicitDefEqProofs only [S0, ↓reduceIte, Int.reduceAdd, Int.reduceSub, Int.reduceToNat, Int.reduceNeg, Nat.reduceAdd, Nat.reduceMul, Nat.reduceSub, reduceCtorEq]
   exact ⟨rfl, rfl, rfl, rfl, rfl, rfl, rfl, rfl, rfl⟩
  ·rw [show Lib.lastIndex p (⟨#[32, 61]⟩ : ByteArray).data.toList = k from hk]
   have hcd := lineC_some hk
   have hod := lineO_some hk
   have hk0 : ¬ (k : Int) < 0 := by omega
   have w1 : IntKind.i64.wrap ((k : Int) + 2) = ((k + 2 : Nat) : Int) := by rw [wr_i64 (by omega) (by omega)]; omega
   have e2 := ex_drop hls hl k
   have e3 := ex_take hls hl (show k ≤ p.length by omega)
   have hks : (k : Int) ≤ s.size := by omega
   have hps : (p.length : Int) ≤ s.size := by omega
   have hkp : ((k + 2 : Nat) : Int) ≤ p.length := by omega
   simp (decide := true) (maxSteps := 4000000) -implicitDefEqProofs only [S0, ↓reduceIte, Int.reduceAdd, Int.reduceSub, Int.reduceToNat, Int.reduceNeg, Nat.reduceAdd, Nat.reduceMul, Nat.reduceSub, reduceCtorEq, hk0, w1, e2, hps, hkp]
   refine call_eq (Atoi_ok (bs (p.drop (k + 2))) (by rw [bs_size, List.length_drop]; omega)) ?_
   rw [bs_list]
   have hkt : (p.take k).length < 4294967281 := by rw [List.length_take]; omega
   generalize p.drop (k + 2) = d at *
   generalize p.take k = b at *
   have hno : ∀ v : Int, Lib.atoiAll d = .ok v → ¬ (0 ≤ v ∧ v ≤ 65520 ∧ Lib.itoa v = d) → lineC p = 10 := fun v e h => by
    rw [hcd]
    unfold sumOk
    rw [e]
    simp only [if_neg h]
    rfl
   unfold errA numA
   cases hb : Lib.atoiAll d with
   | ok v =>
    have hv := Lib.atoiAll_bounds hb
    by_cases hv0 : v < 0
    ·have hcode := hno v hb (by omega)
     simp (decide := true) (maxSteps := 4000000) -implicitDefEqProofs only [S0, ↓reduceIte, Int.reduceAdd, Int.reduceSub, Int.reduceToNat, Int.reduceNeg, Nat.reduceAdd, Nat.reduceMul, Nat.reduceSub, reduceCtorEq, hv0, hcode]
     exact ⟨rfl, rfl, rfl, rfl, rfl, rfl, rfl, rfl, rfl⟩
    ·by_cases hv1 : v > 65520
     ·have hcode := hno v hb (by omega)
      simp (decide := true) (maxSteps := 4000000) -implicitDefEqProofs only [S0, ↓reduceIte, Int.reduceAdd, Int.reduceSub, Int.reduceToNat, Int.reduceNeg, Nat.reduceAdd, Nat.reduceMul, Nat.reduceSub, reduceCtorEq, hv0, hv1, hcode]
      exact ⟨rfl, rfl, rfl, rfl, rfl, rfl, rfl, rfl, rfl⟩
     ·obtain ⟨n, rfl⟩ : ∃ n : Nat, v = n := ⟨v.toNat, by omega⟩
      simp (decide := true) (maxSteps := 4000000) -implicitDefEqProofs only [S0, ↓reduceIte, Int.reduceAdd, Int.reduceSub, Int.reduceToNat, Int.reduceNeg, Nat.reduceAdd, Nat.reduceMul, Nat.reduceSub, reduceCtorEq, hv0, hv1, w1]
      refine call_eq (Itoa_ok n hv) ?_
      by_cases hbi : Lib.itoa (n : Int) = d
      ·have hN : lineC p = if n ≠ sumL b then 8 else bodyC b := by
        rw [hcd]
        unfold sumOk
        rw [hb]
        simp only [if_pos (show 0 ≤ (n : Int) ∧ (n : Int) ≤ 65520 ∧ Lib.itoa (n : Int) = d from ⟨by omega, by omega, hbi⟩), Int.toNat_natCast]
        rfl
       have hbi' : decide (bs (Lib.itoa (n : Int)) = bs d) = true := decide_eq_true (by rw [hbi])
       simp (decide := true) (maxSteps := 4000000) -implicitDefEqProofs only [S0, ↓reduceIte, Int.reduceAdd, Int.reduceSub, Int.reduceToNat, Int.reduceNeg, Nat.reduceAdd, Nat.reduceMul, Nat.reduceSub, reduceCtorEq, toList_beq, hbi', e2, e3, hks, hps, hkp, w1]
       refine call_eq (Sum_ok (bs b) (by rw [bs_size]; omega)) ?_
       rw [bs_list]
       by_cases hsum : n = sumL b
       ·have hR' : lineC p = bodyC b := by rw [hN, if_neg (by simp [hsum])]
        have hs1 : ((n : Int) = (sumL b : Int)) = True := eq_true (by rw [hsum])
        simp (decide := true) (maxSteps := 4000000) -implicitDefEqProofs only [S0, ↓reduceIte, Int.reduceAdd, Int.reduceSub, Int.reduceToNat, Int.reduceNeg, Nat.reduceAdd, Nat.reduceMul, Nat.reduceSub, reduceCtorEq, hs1, e3, hks]
        refine call_eq (parse_ok (bs b) (by rw [bs_size]; omega)) ?_
        rw [bs_list]
        unfold bodyC at hR'
        generalize parseL b = pr at *
        obtain ⟨o, ok⟩ := pr
        cases ok with
        | false =>
         have hcode : lineC p = 10 := hR'
         simp (decide := true) (maxSteps := 4000000) -implicitDefEqProofs only [S0, ↓reduceIte, Int.reduceAdd, Int.reduceSub, Int.reduceToNat, Int.reduceNeg, Nat.reduceAdd, Nat.reduceMul, Nat.reduceSub, reduceCtorEq, hcode]
         exact ⟨rfl, rfl, rfl, rfl, rfl, rfl, rfl, rfl, rfl⟩
        | true =>
         have hcode : lineC p = chkOp o := hR'
         simp (decide := true) (maxSteps := 4000000) -implicitDefEqProofs only [S0, ↓reduceIte, Int.reduceAdd, Int.reduceSub, Int.reduceToNat, Int.reduceNeg, Nat.reduceAdd, Nat.reduceMul, Nat.reduceSub, reduceCtorEq]
         refine call_eq (chkOp_ok o) ?_
         by_cases hck : chkOp o = 0
         ·have w2 : IntKind.i64.wrap ((p.length : Int) + 1) = (p.length : Int) + 1 := wr_i64 (by omega) (by omega)
          simp (decide := true) (maxSteps := 4000000) -implicitDefEqProofs only [S0, ↓reduceIte, Int.reduceAdd, Int.reduceSub, Int.reduceToNat, Int.reduceNeg, Nat.reduceAdd, Nat.reduceMul, Nat.reduceSub, reduceCtorEq, hcode, hod, hck, w2]
         ·simp (decide := true) (maxSteps := 4000000) -implicitDefEqProofs only [S0, ↓reduceIte, Int.reduceAdd, Int.reduceSub, Int.reduceToNat, Int.reduceNeg, Nat.reduceAdd, Nat.reduceMul, Nat.reduceSub, reduceCtorEq, hcode, hck]
          exact ⟨rfl, rfl, rfl, rfl, rfl, rfl, rfl, rfl, rfl⟩
       ·have hcode : lineC p = 8 := by rw [hN, if_pos hsum]
        have hs1 : ¬ (n : Int) = (sumL b : Int) := by omega
        simp (decide := true) (maxSteps := 4000000) -implicitDefEqProofs only [S0, ↓reduceIte, Int.reduceAdd, Int.reduceSub, Int.reduceToNat, Int.reduceNeg, Nat.reduceAdd, Nat.reduceMul, Nat.reduceSub, reduceCtorEq, hs1, e3, hks, hcode]
        exact ⟨rfl, rfl, rfl, rfl, rfl, rfl, rfl, rfl, rfl⟩
      ·have hcode := hno _ hb (fun h => hbi h.2.2)
       have hbi' : decide (bs (Lib.itoa (n : Int)) = bs d) = false := decide_eq_false (fun e => hbi (bs_inj.1 e))
       simp (decide := true) (maxSteps := 4000000) -implicitDefEqProofs only [S0, ↓reduceIte, Int.reduceAdd, Int.reduceSub, Int.reduceToNat, Int.reduceNeg, Nat.reduceAdd, Nat.reduceMul, Nat.reduceSub, reduceCtorEq, toList_beq, hbi', e2, hks, hps, hkp, w1, hcode]
       exact ⟨rfl, rfl, rfl, rfl, rfl, rfl, rfl, rfl, rfl⟩
   | _ =>
    have hcode : lineC p = 10 := by
     rw [hcd]
     unfold sumOk
     rw [hb]
     rfl
    simp (decide := true) (maxSteps := 4000000) -implicitDefEqProofs only [S0, ↓reduceIte, Int.reduceAdd, Int.reduceSub, Int.reduceToNat, Int.reduceNeg, Nat.reduceAdd, Nat.reduceMul, Nat.reduceSub, reduceCtorEq, hcode]
    exact ⟨rfl, rfl, rfl, rfl, rfl, rfl, rfl, rfl, rfl⟩
 ·have hib : Lib.indexByte l 10 = -1 := ib_none h10
  have kC : lnC l = 7 := by rw [lnC, hib]; rfl
  have kO : lnO l = noOp := by rw [lnO, kC]; rfl
  have kN : lnN l = 0 := by rw [lnN, kC]; rfl
  rw [hib, kC, kO, kN]
  simp (decide := true) (maxSteps := 4000000) -implicitDefEqProofs only [S0, ↓reduceIte, Int.reduceAdd, Int.reduceSub, Int.reduceToNat, Int.reduceNeg, Nat.reduceAdd, Nat.reduceMul, Nat.reduceSub, reduceCtorEq]
  exact ⟨rfl, rfl, rfl, rfl, rfl, rfl, rfl, rfl, rfl⟩
end Go.Proofs.YtonolfpnidaflaaGreatDoor.E
