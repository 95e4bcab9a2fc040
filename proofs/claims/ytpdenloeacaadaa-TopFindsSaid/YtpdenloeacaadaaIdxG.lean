/- Walks: an index that is read: By, Keys, Count, Same. No conditions. -/
import Derived.Test.YtpdenloeacaadaaIdxF
namespace Go.Proofs.Ytpdenloeacaadaa.E
open Go
set_option linter.unusedSimpArgs false
set_option linter.unusedVariables false
set_option linter.unusedSectionVars false
set_option maxRecDepth 20000
set_option maxHeartbeats 2000000
abbrev ss1I (l : List ByteArray) : List (List AV) := l.map ssC
theorem cloneI_ok (l : List ByteArray) (hl : l.length ≤ 1000000) : OkH Try.prog 47 [strs l] [] (.own (.e 0) 1 1 0 l.length) [(1, .row 9 1 none (ss1I l))] := by
 refine OkH.of_wpX (rs := [.tmp 2]) (n := 8) Try.func47 rfl rfl rfl (by simp) fo (by kernel_rfl) ?_
 simp (decide := true) (maxSteps := 4000000) -implicitDefEqProofs only [S0, ↓reduceIte, Int.reduceAdd, Int.reduceSub, Int.reduceToNat, Int.reduceNeg, Nat.reduceAdd, Nat.reduceMul, Nat.reduceSub, reduceCtorEq]
 refine ⟨fun e => ⟨[none], ?_⟩, by omega, ⟨[some (.l 5)], ?_⟩⟩
 ·obtain rfl := List.map_eq_nil_iff.1 e
  simp (decide := true) (maxSteps := 4000000) -implicitDefEqProofs only [S0, ↓reduceIte, Int.reduceAdd, Int.reduceSub, Int.reduceToNat, Int.reduceNeg, Nat.reduceAdd, Nat.reduceMul, Nat.reduceSub, reduceCtorEq]
 ·simp (decide := true) (maxSteps := 4000000) -implicitDefEqProofs only [S0, ↓reduceIte, Int.reduceAdd, Int.reduceSub, Int.reduceToNat, Int.reduceNeg, Nat.reduceAdd, Nat.reduceMul, Nat.reduceSub, reduceCtorEq]
theorem cmpL_ok (e : Fd × List ByteArray) (f : Fd) : Ok Try.prog 46 [.agg (rowE e), fdV f] (I (cmpF e.1 f)) := by
 refine Ok.of_wp (rs := [.tmp 4]) (n := 21) Try.func46 rfl rfl rfl (by simp) fo (by kernel_rfl) ?_
 simp (decide := true) (maxSteps := 4000000) -implicitDefEqProofs only [S0, ↓reduceIte, Int.reduceAdd, Int.reduceSub, Int.reduceToNat, Int.reduceNeg, Nat.reduceAdd, Nat.reduceMul, Nat.reduceSub, reduceCtorEq]
 refine call_eq (Compare_ok e.1.key f.key) ?_
 unfold cmpF
 by_cases h : cmpB e.1.key f.key = 0
 ·rw [if_pos h]
  simp (decide := true) (maxSteps := 4000000) -implicitDefEqProofs only [S0, ↓reduceIte, Int.reduceAdd, Int.reduceSub, Int.reduceToNat, Int.reduceNeg, Nat.reduceAdd, Nat.reduceMul, Nat.reduceSub, reduceCtorEq, h]
  refine call_eq (Compare_ok e.1.val f.val) ?_
  simp (decide := true) (maxSteps := 4000000) -implicitDefEqProofs only [S0, ↓reduceIte, Int.reduceAdd, Int.reduceSub, Int.reduceToNat, Int.reduceNeg, Nat.reduceAdd, Nat.reduceMul, Nat.reduceSub, reduceCtorEq]
 ·rw [if_neg h]
  simp (decide := true) (maxSteps := 4000000) -implicitDefEqProofs only [S0, ↓reduceIte, Int.reduceAdd, Int.reduceSub, Int.reduceToNat, Int.reduceNeg, Nat.reduceAdd, Nat.reduceMul, Nat.reduceSub, reduceCtorEq, h]
theorem isF_none {k : Fd} {es : Es} (hs : EsUp es) (h : es.length ≤ posF k es) : isF k es = false := by
 rw [isF_eq]
 exact anyE_none (up_RE hs) (by rw [← posF_eq, List.length_map]; exact h)
theorem isF_get {k : Fd} {es : Es} (hs : EsUp es) {e : Fd × List ByteArray} (he : es[posF k es]? = some e) : isF k es = decide (e.1 = k) := by
 rw [isF_eq]
 exact anyE_at (up_RE hs) (f := toRE e) (by rw [← posF_eq, List.getElem?_map, he]; rfl)
theorem bsL_ok (l : Es) (k : Fd) (hl : l.length ≤ 45000) (hs : EsUp l) : Ok Try.prog 45 [.list 3 (rowsE l), fdV k, .func 46 []] (.tup [I (posF k l), B (isF k l)]) := by
 refine Ok.of_wp (rs := [.tmp 6, .tmp 7]) (n := 49) Try.func45 rfl rfl rfl (by simp) fo (by kernel_rfl) ?_
 simp (decide := true) (maxSteps := 4000000) -implicitDefEqProofs only [S0, ↓reduceIte, Int.reduceAdd, Int.reduceSub, Int.reduceToNat, Int.reduceNeg, Nat.reduceAdd, Nat.reduceMul, Nat.reduceSub, reduceCtorEq]
 refine ALoop.st [0, 1, 2, 4, 8, 9, 10] (fun (s : Nat × Nat) => [.list 3 (rowsE l), fdV k, .func 46 [], .ptr (.l 4) 1 0, I l.length, I s.1, I s.2]) (fun _ => [(.l 4, 1, .cells 37 [S k.key, S k.val])]) (fun s => s.1 ≤ s.2 ∧ s.2 ≤ l.length ∧ s.1 ≤ posF k l ∧ posF k l ≤ s.2) (fun s => s.2 - s.1) [] (0, l.length) (by simp (decide := true) (maxSteps := 4000000) -implicitDefEqProofs only [S0, ↓reduceIte, Int.reduceAdd, Int.reduceSub, Int.reduceToNat, Int.reduceNeg, Nat.reduceAdd, Nat.reduceMul, Nat.reduceSub, reduceCtorEq]; try rfl) (by simp (decide := true) (maxSteps := 4000000) -implicitDefEqProofs only [S0, ↓reduceIte, Int.reduceAdd, Int.reduceSub, Int.reduceToNat, Int.reduceNeg, Nat.reduceAdd, Nat.reduceMul, Nat.reduceSub, reduceCtorEq]) ⟨by omega, by omega, by omega, posF_le _ _⟩ ?_
 rintro ⟨i, j⟩ ⟨hij, hj, h1, h2⟩
 simp only at hij hj h1 h2
 by_cases h : (i : Int) < j
 ·obtain ⟨f, hf⟩ := lt_get (l := l) (i := (i + j) / 2) (by omega)
  have e1 : IntKind.i64.wrap ((i : Int) + j) = ((i + j : Nat) : Int) := by rw [wr_i64 (by omega) (by omega)]; omega
  have e2 := half_eqS (n := i + j) (by omega)
  have hit := posF_iff (k := k) hs hf
  have hm : (((i + j) / 2 : Nat) : Int) < l.length := by omega
  have hwm := wr_add1 (n := l.length) hm (by omega)
  simp (decide := true) (maxSteps := 4000000) -implicitDefEqProofs only [S0, ↓reduceIte, Int.reduceAdd, Int.reduceSub, Int.reduceToNat, Int.reduceNeg, Nat.reduceAdd, Nat.reduceMul, Nat.reduceSub, reduceCtorEq, h, e1, e2, hf, hm]
  refine call_eq (cmpL_ok f k) ?_
  by_cases hc : fLt f.1 k = true
  ·have hc' : cmpF f.1 k < 0 := of_decide_eq_true hc
   have := hit.1 hc
   simp (decide := true) (maxSteps := 4000000) -implicitDefEqProofs only [S0, ↓reduceIte, Int.reduceAdd, Int.reduceSub, Int.reduceToNat, Int.reduceNeg, Nat.reduceAdd, Nat.reduceMul, Nat.reduceSub, reduceCtorEq, hc', hwm]
   exact Nxt.mk [] ((i + j) / 2 + 1, j) (by simp (decide := true) (maxSteps := 4000000) -implicitDefEqProofs only [S0, ↓reduceIte, Int.reduceAdd, Int.reduceSub, Int.reduceToNat, Int.reduceNeg, Nat.reduceAdd, Nat.reduceMul, Nat.reduceSub, reduceCtorEq]; try rfl) (by simp (decide := true) (maxSteps := 4000000) -implicitDefEqProofs only [S0, ↓reduceIte, Int.reduceAdd, Int.reduceSub, Int.reduceToNat, Int.reduceNeg, Nat.reduceAdd, Nat.reduceMul, Nat.reduceSub, reduceCtorEq]) ⟨by simp only; omega, by simp only; omega, by simp only; omega, by simp only; omega⟩ (by simp only; omega)
  ·have hc' : ¬ cmpF f.1 k < 0 := fun h => hc (decide_eq_true h)
   have : ¬ (i + j) / 2 < posF k l := fun h => hc (hit.2 h)
   simp (decide := true) (maxSteps := 4000000) -implicitDefEqProofs only [S0, ↓reduceIte, Int.reduceAdd, Int.reduceSub, Int.reduceToNat, Int.reduceNeg, Nat.reduceAdd, Nat.reduceMul, Nat.reduceSub, reduceCtorEq, hc']
   exact Nxt.mk [] (i, (i + j) / 2) (by simp (decide := true) (maxSteps := 4000000) -implicitDefEqProofs only [S0, ↓reduceIte, Int.reduceAdd, Int.reduceSub, Int.reduceToNat, Int.reduceNeg, Nat.reduceAdd, Nat.reduceMul, Nat.reduceSub, reduceCtorEq]; try rfl) (by simp (decide := true) (maxSteps := 4000000) -implicitDefEqProofs only [S0, ↓reduceIte, Int.reduceAdd, Int.reduceSub, Int.reduceToNat, Int.reduceNeg, Nat.reduceAdd, Nat.reduceMul, Nat.reduceSub, reduceCtorEq]) ⟨by simp only; omega, by simp only; omega, by simp only; omega, by simp only; omega⟩ (by simp only; omega)
 ·obtain rfl : i = posF k l := by omega
  by_cases hn : ((posF k l : Nat) : Int) < l.length
  ·obtain ⟨f, hf⟩ := get_lt hn
   have hany := isF_get hs hf
   simp (decide := true) (maxSteps := 4000000) -implicitDefEqProofs only [S0, ↓reduceIte, Int.reduceAdd, Int.reduceSub, Int.reduceToNat, Int.reduceNeg, Nat.reduceAdd, Nat.reduceMul, Nat.reduceSub, reduceCtorEq, h, hn, hf]
   refine call_eq (cmpL_ok f k) ?_
   rw [hany]
   by_cases hc : f.1 = k
   ·have hc' : (cmpF f.1 k == 0) = true := by rw [beq_iff_eq]; exact (cmpF_zero _ _).2 hc
    simp (decide := true) (maxSteps := 4000000) -implicitDefEqProofs only [S0, ↓reduceIte, Int.reduceAdd, Int.reduceSub, Int.reduceToNat, Int.reduceNeg, Nat.reduceAdd, Nat.reduceMul, Nat.reduceSub, reduceCtorEq, hc']
    simp [hc]
   ·have hc' : (cmpF f.1 k == 0) = false := by
     rw [Bool.eq_false_iff]
     intro h
     rw [beq_iff_eq] at h
     exact hc ((cmpF_zero _ _).1 h)
    simp (decide := true) (maxSteps := 4000000) -implicitDefEqProofs only [S0, ↓reduceIte, Int.reduceAdd, Int.reduceSub, Int.reduceToNat, Int.reduceNeg, Nat.reduceAdd, Nat.reduceMul, Nat.reduceSub, reduceCtorEq, hc']
    simp [hc]
  ·have hnone := isF_none (k := k) hs (by omega)
   simp (decide := true) (maxSteps := 4000000) -implicitDefEqProofs only [S0, ↓reduceIte, Int.reduceAdd, Int.reduceSub, Int.reduceToNat, Int.reduceNeg, Nat.reduceAdd, Nat.reduceMul, Nat.reduceSub, reduceCtorEq, h, hn, hnone]
/-- The names that an index says of a field. -/
def namesOf (f : Fd) (es : Es) : List ByteArray := match es.find? fun e => decide (e.1 = f) with
 | some e => e.2
 | none => []
theorem namesOf_at {f : Fd} {es : Es} (hs : EsUp es) {e : Fd × List ByteArray} (he : es[posF f es]? = some e) (hf : isF f es = true) : namesOf f es = e.2 := by
 have h1 : e.1 = f := by rw [isF_get hs he] at hf; exact of_decide_eq_true hf
 unfold namesOf
 cases h : es.find? fun e => decide (e.1 = f) with
 | none =>
  have := List.find?_eq_none.1 h e (List.mem_of_getElem? he)
  simp [h1] at this
 | some d =>
  have d0 := List.find?_some h
  have d1 : d.1 = f := by simpa using d0
  have dm := List.mem_of_find?_eq_some h
  obtain ⟨m, hm⟩ := List.getElem?_of_mem dm
  have i1 := posF_iff (k := f) hs hm
  rw [d1, fLt_irrefl] at i1
  have hge : posF f es ≤ m := by
   rcases Nat.lt_or_ge m (posF f es) with h | h
   ·exact absurd (i1.2 h) (by simp)
   ·exact h
  have : posF f es = m := by
   rcases Nat.lt_or_ge (posF f es) m with h2 | h2
   ·obtain ⟨a1, a2⟩ := List.getElem?_eq_some_iff.1 he
    obtain ⟨b1, b2⟩ := List.getElem?_eq_some_iff.1 hm
    have := List.pairwise_iff_getElem.1 hs.1 _ _ a1 b1 h2
    rw [a2, b2, h1, d1, fLt_irrefl] at this
    cases this
   ·omega
  rw [this, hm] at he
  cases he
  rfl
theorem namesOf_none {f : Fd} {es : Es} (hf : isF f es = false) : namesOf f es = [] := by
 unfold namesOf
 have : (es.find? fun e => decide (e.1 = f)) = none := List.find?_eq_none.2 fun e he h => by
  have : isF f es = true := List.any_eq_true.2 ⟨e, he, h⟩
  rw [hf] at this
  cases this
 rw [this]
theorem namesOf_mem {f : Fd} {es : Es} (hs : EsUp es) {x : ByteArray} : x ∈ namesOf f es ↔ memE es f x := by
 cases hf : isF f es with
 | true =>
  obtain ⟨e, he, h1⟩ := isF_at hs hf
  rw [namesOf_at hs he hf]
  constructor
  ·intro h; exact ⟨e, List.mem_of_getElem? he, h1, h⟩
  ·rintro ⟨d, hd, d1, hx⟩
   obtain ⟨m, hm⟩ := List.getElem?_of_mem hd
   have i1 := posF_iff (k := f) hs hm
   rw [d1, fLt_irrefl] at i1
   have hge : posF f es ≤ m := by
    rcases Nat.lt_or_ge m (posF f es) with h | h
    ·exact absurd (i1.2 h) (by simp)
    ·exact h
   have : posF f es = m := by
    rcases Nat.lt_or_ge (posF f es) m with h2 | h2
    ·obtain ⟨a1, a2⟩ := List.getElem?_eq_some_iff.1 he
     obtain ⟨b1, b2⟩ := List.getElem?_eq_some_iff.1 hm
     have := List.pairwise_iff_getElem.1 hs.1 _ _ a1 b1 h2
     rw [a2, b2, h1, d1, fLt_irrefl] at this
     cases this
    ·omega
   rw [this, hm] at he
   cases he
   exact hx
 | false =>
  rw [namesOf_none hf]
  constructor
  ·intro h; cases h
  ·rintro ⟨d, hd, d1, hx⟩
   have : isF f es = true := List.any_eq_true.2 ⟨d, hd, decide_eq_true d1⟩
   rw [hf] at this
   cases this
theorem namesOf_up {f : Fd} {es : Es} (hs : EsUp es) : StrUp (namesOf f es) := by
 unfold namesOf
 split
 ·rename_i e h
  exact (hs.2 e (List.mem_of_find?_eq_some h)).1
 ·exact List.Pairwise.nil
theorem namesOf_B {f : Fd} {es : Es} {m k : Nat} (h : EsB m k es) : (namesOf f es).length ≤ k := by
 unfold namesOf
 split
 ·rename_i e he
  exact h.2 e (List.mem_of_find?_eq_some he)
 ·exact Nat.zero_le _
def saysL (f : Fd) (es : Es) : List ByteArray := if byOk f then namesOf f es else []
theorem ByF_ok (es : Es) (f : Fd) (hs : EsUp es) (hb : EsB 45000 9000 es) : OkH Try.prog 16 [ixV es, fdV f] [] (.tup [.own (.e 0) 1 1 0 (saysL f es).length, I (if byOk f then 0 else 3)]) [(1, .row 9 1 none (ss1I (saysL f es)))] := by
 refine OkH.of_wpX (rs := [.tmp 4, .tmp 5]) (n := 38) Try.func16 rfl rfl rfl (by simp) fo (by kernel_rfl) ?_
 simp (decide := true) (maxSteps := 4000000) -implicitDefEqProofs only [S0, ↓reduceIte, Int.reduceAdd, Int.reduceSub, Int.reduceToNat, Int.reduceNeg, Nat.reduceAdd, Nat.reduceMul, Nat.reduceSub, reduceCtorEq]
 refine call_eq (Id_ok f.key) ?_
 have hB0 : saysL f es = if byOk f then namesOf f es else [] := rfl
 cases h1 : idOk f.key with
 | false =>
  have e0 : byOk f = false := by unfold byOk; rw [h1]; rfl
  rw [e0] at hB0
  simp (decide := true) (maxSteps := 4000000) -implicitDefEqProofs only [S0, ↓reduceIte, Int.reduceAdd, Int.reduceSub, Int.reduceToNat, Int.reduceNeg, Nat.reduceAdd, Nat.reduceMul, Nat.reduceSub, reduceCtorEq, h1, hB0, e0]
  exact ⟨[none], by simp (decide := true) (maxSteps := 4000000) -implicitDefEqProofs only [S0, ↓reduceIte, Int.reduceAdd, Int.reduceSub, Int.reduceToNat, Int.reduceNeg, Nat.reduceAdd, Nat.reduceMul, Nat.reduceSub, reduceCtorEq]⟩
 | true =>
  simp (decide := true) (maxSteps := 4000000) -implicitDefEqProofs only [S0, ↓reduceIte, Int.reduceAdd, Int.reduceSub, Int.reduceToNat, Int.reduceNeg, Nat.reduceAdd, Nat.reduceMul, Nat.reduceSub, reduceCtorEq, h1]
  refine call_eq (Value_ok f.val) ?_
  cases h2 : valOk f.val with
  | false =>
   have e0 : byOk f = false := by unfold byOk; rw [h1, h2]; rfl
   rw [e0] at hB0
   simp (decide := true) (maxSteps := 4000000) -implicitDefEqProofs only [S0, ↓reduceIte, Int.reduceAdd, Int.reduceSub, Int.reduceToNat, Int.reduceNeg, Nat.reduceAdd, Nat.reduceMul, Nat.reduceSub, reduceCtorEq, h2, hB0, e0]
   exact ⟨[none], by simp (decide := true) (maxSteps := 4000000) -implicitDefEqProofs only [S0, ↓reduceIte, Int.reduceAdd, Int.reduceSub, Int.reduceToNat, Int.reduceNeg, Nat.reduceAdd, Nat.reduceMul, Nat.reduceSub, reduceCtorEq]⟩
  | true =>
   have e0 : byOk f = true := by unfold byOk; rw [h1, h2]; rfl
   rw [e0] at hB0
   simp only [if_true] at hB0
   simp (decide := true) (maxSteps := 4000000) -implicitDefEqProofs only [S0, ↓reduceIte, Int.reduceAdd, Int.reduceSub, Int.reduceToNat, Int.reduceNeg, Nat.reduceAdd, Nat.reduceMul, Nat.reduceSub, reduceCtorEq, h2, e0]
   refine call_eq (bsL_ok es f hb.1 hs) ?_
   rw [hB0]
   cases hF : isF f es with
   | false =>
    rw [namesOf_none hF]
    simp (decide := true) (maxSteps := 4000000) -implicitDefEqProofs only [S0, ↓reduceIte, Int.reduceAdd, Int.reduceSub, Int.reduceToNat, Int.reduceNeg, Nat.reduceAdd, Nat.reduceMul, Nat.reduceSub, reduceCtorEq]
    exact ⟨[none], by simp (decide := true) (maxSteps := 4000000) -implicitDefEqProofs only [S0, ↓reduceIte, Int.reduceAdd, Int.reduceSub, Int.reduceToNat, Int.reduceNeg, Nat.reduceAdd, Nat.reduceMul, Nat.reduceSub, reduceCtorEq]⟩
   | true =>
    obtain ⟨e, he, _⟩ := isF_at hs hF
    have hlt := (List.getElem?_eq_some_iff.1 he).1
    have hi2 : ((posF f es : Nat) : Int) < (es.length : Int) := by omega
    have hel := hb.2 e (List.mem_of_getElem? he)
    rw [namesOf_at hs he hF]
    simp (decide := true) (maxSteps := 4000000) -implicitDefEqProofs only [S0, ↓reduceIte, Int.reduceAdd, Int.reduceSub, Int.reduceToNat, Int.reduceNeg, Nat.reduceAdd, Nat.reduceMul, Nat.reduceSub, reduceCtorEq, he, hi2]
    refine callHF (cloneI_ok e.2 (by omega)) [.l 37] ?_
    simp (decide := true) (maxSteps := 4000000) -implicitDefEqProofs only [S0, ↓reduceIte, Int.reduceAdd, Int.reduceSub, Int.reduceToNat, Int.reduceNeg, Nat.reduceAdd, Nat.reduceMul, Nat.reduceSub, reduceCtorEq]
    exact ⟨[some (.l 37)], by simp (decide := true) (maxSteps := 4000000) -implicitDefEqProofs only [S0, ↓reduceIte, Int.reduceAdd, Int.reduceSub, Int.reduceToNat, Int.reduceNeg, Nat.reduceAdd, Nat.reduceMul, Nat.reduceSub, reduceCtorEq]⟩
end Go.Proofs.Ytpdenloeacaadaa.E
