/- Walks: an index's entries, of which the names' places are told as bare values. No conditions. -/
import Derived.Test.YtpdenloeacaadaaCmp
import Derived.Test.YtpdenloeacaadaaPageS
namespace Go.Proofs.Ytpdenloeacaadaa.E
open Go
set_option linter.unusedSimpArgs false
set_option linter.unusedVariables false
set_option linter.unusedSectionVars false
set_option maxRecDepth 20000
set_option maxHeartbeats 1000000
/-- An entry, of which the list of names is a bare value. -/
structure RE where
 fd : Fd
 a : Option Addr
 n : Nat
 c : Nat
abbrev entC (e : RE) : List AV := [S e.fd.key, S e.fd.val, .val (.slice e.a e.n e.c)]
abbrev ssC (s : ByteArray) : List AV := [S s]
abbrev rw1 (l : List ByteArray) : Blk := .row 9 1 none (l.map ssC)
theorem cmpB_negI (a b : ByteArray) : (cmpB a b < 0) ↔ sLt a b = true := by
 unfold cmpB
 split
 ·rename_i h; subst h; rw [sLt_irrefl]; simp
 ·split <;> simp_all
theorem cmpB_zeroI (a b : ByteArray) : (cmpB a b = 0) ↔ a = b := by
 unfold cmpB
 split
 ·simp_all
 ·split <;> simp_all
/-- By keys, then by values. -/
def cmpF (a b : Fd) : Int := if cmpB a.key b.key = 0 then cmpB a.val b.val else cmpB a.key b.key
def fLt (a b : Fd) : Bool := decide (cmpF a b < 0)
theorem fLt_iff (a b : Fd) : fLt a b = true ↔ (sLt a.key b.key = true ∨ (a.key = b.key ∧ sLt a.val b.val = true)) := by
 unfold fLt cmpF
 rw [decide_eq_true_eq]
 by_cases h : a.key = b.key
 ·rw [if_pos ((cmpB_zeroI _ _).2 h), cmpB_negI, h, sLt_irrefl]; simp
 ·rw [if_neg (fun e => h ((cmpB_zeroI _ _).1 e)), cmpB_negI]; simp [h]
theorem cmpF_zero (a b : Fd) : (cmpF a b = 0) ↔ a = b := by
 unfold cmpF
 by_cases h : a.key = b.key
 ·rw [if_pos ((cmpB_zeroI _ _).2 h), cmpB_zeroI]
  cases a; cases b; simp only at h; subst h; simp
 ·rw [if_neg (fun e => h ((cmpB_zeroI _ _).1 e))]
  constructor
  ·intro e; exact absurd ((cmpB_zeroI _ _).1 e) h
  ·intro e; rw [e] at h; exact absurd rfl h
theorem fLt_trans {a b c : Fd} (h : fLt a b = true) (k : fLt b c = true) : fLt a c = true := by
 rw [fLt_iff] at h k ⊢
 rcases h with h | ⟨h, h2⟩ <;> rcases k with k | ⟨k, k2⟩
 ·exact .inl (sLt_trans h k)
 ·exact .inl (k ▸ h)
 ·exact .inl (h ▸ k)
 ·exact .inr ⟨h.trans k, sLt_trans h2 k2⟩
theorem fLt_irrefl (a : Fd) : fLt a a = false := by
 rw [Bool.eq_false_iff]
 intro h
 rw [fLt_iff, sLt_irrefl, sLt_irrefl] at h
 simp at h
theorem fLt_of_ge {a b k : Fd} (h : fLt a k = false) (hab : fLt a b = true) : fLt b k = false := by
 cases e : fLt b k with
 | false => rfl
 | true => rw [fLt_trans hab e] at h; cases h
def posE (k : Fd) (l : List RE) : Nat := (l.filter fun e => fLt e.fd k).length
def EntUp (l : List RE) : Prop := l.Pairwise fun f g => fLt f.fd g.fd = true
theorem posE_zero {k : Fd} {g : RE} {l : List RE} (hs : EntUp (g :: l)) (h : fLt g.fd k = false) : posE k (g :: l) = 0 := by
 unfold posE
 rw [List.length_eq_zero_iff, List.filter_eq_nil_iff]
 intro f hf
 rcases List.mem_cons.1 hf with e | hf
 ·rw [e, h]; simp
 ·rw [fLt_of_ge h ((List.pairwise_cons.1 hs).1 f hf)]; simp
theorem posE_iff {k : Fd} {l : List RE} (hs : EntUp l) : ∀ {m : Nat} {f : RE}, l[m]? = some f → (fLt f.fd k = true ↔ m < posE k l) := by
 induction l with
 | nil => intro m f h; simp at h
 | cons g l ih =>
  intro m f h
  cases e : fLt g.fd k with
  | false =>
   rw [posE_zero hs e]
   have hm := List.mem_of_getElem? h
   have : fLt f.fd k = false := by
    rcases List.mem_cons.1 hm with e2 | hm
    ·rw [e2]; exact e
    ·exact fLt_of_ge e ((List.pairwise_cons.1 hs).1 f hm)
   rw [this]; simp
  | true =>
   have e2 : posE k (g :: l) = posE k l + 1 := by unfold posE; rw [List.filter_cons, e]; rfl
   rw [e2]
   cases m with
   | zero => simp at h; subst h; simp [e]
   | succ m =>
    rw [List.getElem?_cons_succ] at h
    rw [ih (List.pairwise_cons.1 hs).2 h]; omega
theorem anyE_none {k : Fd} {l : List RE} (hs : EntUp l) (h : l.length ≤ posE k l) : (l.any fun f => decide (f.fd = k)) = false := by
 rw [Bool.eq_false_iff]
 intro ha
 obtain ⟨g, hg, e⟩ := List.any_eq_true.1 ha
 have e := of_decide_eq_true e
 obtain ⟨m, hm⟩ := List.getElem?_of_mem hg
 have := (posE_iff (k := k) hs hm).2 (by have := (List.getElem?_eq_some_iff.1 hm).1; omega)
 rw [e, fLt_irrefl] at this
 cases this
theorem anyE_at {k : Fd} {l : List RE} (hs : EntUp l) {f : RE} (hf : l[posE k l]? = some f) : (l.any fun f => decide (f.fd = k)) = decide (f.fd = k) := by
 have hfn : fLt f.fd k = false := by
  rw [Bool.eq_false_iff]
  intro h
  have := (posE_iff hs hf).1 h
  omega
 rw [Bool.eq_iff_iff, decide_eq_true_eq]
 constructor
 ·intro ha
  obtain ⟨g, hg, e⟩ := List.any_eq_true.1 ha
  have e := of_decide_eq_true e
  obtain ⟨m, hm⟩ := List.getElem?_of_mem hg
  have h1 : ¬ m < posE k l := fun h => by
   have := (posE_iff (k := k) hs hm).2 h
   rw [e, fLt_irrefl] at this
   cases this
  by_cases h2 : m = posE k l
  ·rw [h2, hf] at hm; cases hm; exact e
  ·obtain ⟨a1, a2⟩ := List.getElem?_eq_some_iff.1 hf
   obtain ⟨b1, b2⟩ := List.getElem?_eq_some_iff.1 hm
   have := List.pairwise_iff_getElem.1 hs (posE k l) m a1 b1 (by omega)
   rw [a2, b2, e, hfn] at this
   cases this
 ·intro e
  exact List.any_eq_true.2 ⟨f, List.mem_of_getElem? hf, decide_eq_true e⟩
theorem cmpE_ok (e : RE) (f : Fd) : Ok Try.prog 46 [.agg (entC e), fdV f] (I (cmpF e.fd f)) := by
 refine Ok.of_wp (rs := [.tmp 4]) (n := 21) Try.func46 rfl rfl rfl (by simp) fo (by kernel_rfl) ?_
 simp (decide := true) (maxSteps := 4000000) -implicitDefEqProofs only [S0, ↓reduceIte, Int.reduceAdd, Int.reduceSub, Int.reduceToNat, Int.reduceNeg, Nat.reduceAdd, Nat.reduceMul, Nat.reduceSub, reduceCtorEq]
 refine call_eq (Compare_ok e.fd.key f.key) ?_
 unfold cmpF
 by_cases h : cmpB e.fd.key f.key = 0
 ·rw [if_pos h]
  simp (decide := true) (maxSteps := 4000000) -implicitDefEqProofs only [S0, ↓reduceIte, Int.reduceAdd, Int.reduceSub, Int.reduceToNat, Int.reduceNeg, Nat.reduceAdd, Nat.reduceMul, Nat.reduceSub, reduceCtorEq, h]
  refine call_eq (Compare_ok e.fd.val f.val) ?_
  simp (decide := true) (maxSteps := 4000000) -implicitDefEqProofs only [S0, ↓reduceIte, Int.reduceAdd, Int.reduceSub, Int.reduceToNat, Int.reduceNeg, Nat.reduceAdd, Nat.reduceMul, Nat.reduceSub, reduceCtorEq]
 ·rw [if_neg h]
  simp (decide := true) (maxSteps := 4000000) -implicitDefEqProofs only [S0, ↓reduceIte, Int.reduceAdd, Int.reduceSub, Int.reduceToNat, Int.reduceNeg, Nat.reduceAdd, Nat.reduceMul, Nat.reduceSub, reduceCtorEq, h]
abbrev heE (l : List RE) : Hp := [(.e 0, 0, .row 104 3 none (l.map entC))]
theorem bsE_ok (l : List RE) (k : Fd) (hl : l.length ≤ 45000) (hs : EntUp l) : OkH Try.prog 45 [.own (.e 0) 0 3 0 l.length, fdV k, .func 46 []] [.row 104 3 none (l.map entC)] (.tup [I (posE k l), B (l.any fun f => decide (f.fd = k))]) [(0, .row 104 3 none (l.map entC))] := by
 refine OkH.of_wp (rs := [.tmp 6, .tmp 7]) (n := 49) [] Try.func45 rfl rfl rfl (by simp) fo (by kernel_rfl) ?_
 simp (decide := true) (maxSteps := 4000000) -implicitDefEqProofs only [S0, ↓reduceIte, Int.reduceAdd, Int.reduceSub, Int.reduceToNat, Int.reduceNeg, Nat.reduceAdd, Nat.reduceMul, Nat.reduceSub, reduceCtorEq]
 refine ALoop.st [0, 1, 2, 4, 8, 9, 10] (fun (s : Nat × Nat) => [.own (.e 0) 0 3 0 l.length, fdV k, .func 46 [], .ptr (.l 4) 1 0, I l.length, I s.1, I s.2]) (fun _ => (.l 4, 1, .cells 37 [S k.key, S k.val]) :: heE l) (fun s => s.1 ≤ s.2 ∧ s.2 ≤ l.length ∧ s.1 ≤ posE k l ∧ posE k l ≤ s.2) (fun s => s.2 - s.1) [] (0, l.length) (by simp (decide := true) (maxSteps := 4000000) -implicitDefEqProofs only [S0, ↓reduceIte, Int.reduceAdd, Int.reduceSub, Int.reduceToNat, Int.reduceNeg, Nat.reduceAdd, Nat.reduceMul, Nat.reduceSub, reduceCtorEq]; try rfl) (by simp (decide := true) (maxSteps := 4000000) -implicitDefEqProofs only [S0, ↓reduceIte, Int.reduceAdd, Int.reduceSub, Int.reduceToNat, Int.reduceNeg, Nat.reduceAdd, Nat.reduceMul, Nat.reduceSub, reduceCtorEq]) ⟨by omega, by omega, by omega, List.length_filter_le _ _⟩ ?_
 rintro ⟨i, j⟩ ⟨hij, hj, h1, h2⟩
 simp only at hij hj h1 h2
 by_cases h : (i : Int) < j
 ·obtain ⟨f, hf⟩ := lt_get (l := l) (i := (i + j) / 2) (by omega)
  have e1 : IntKind.i64.wrap ((i : Int) + j) = ((i + j : Nat) : Int) := by rw [wr_i64 (by omega) (by omega)]; omega
  have e2 := half_eqS (n := i + j) (by omega)
  have hit := posE_iff (k := k) hs hf
  have hm : (((i + j) / 2 : Nat) : Int) < l.length := by omega
  have hwm := wr_add1 (n := l.length) hm (by omega)
  simp (decide := true) (maxSteps := 4000000) -implicitDefEqProofs only [S0, ↓reduceIte, Int.reduceAdd, Int.reduceSub, Int.reduceToNat, Int.reduceNeg, Nat.reduceAdd, Nat.reduceMul, Nat.reduceSub, reduceCtorEq, h, e1, e2, hf, hm]
  refine call_eq (cmpE_ok f k) ?_
  by_cases hc : fLt f.fd k = true
  ·have hc' : cmpF f.fd k < 0 := of_decide_eq_true hc
   have := hit.1 hc
   simp (decide := true) (maxSteps := 4000000) -implicitDefEqProofs only [S0, ↓reduceIte, Int.reduceAdd, Int.reduceSub, Int.reduceToNat, Int.reduceNeg, Nat.reduceAdd, Nat.reduceMul, Nat.reduceSub, reduceCtorEq, hc', hwm]
   exact Nxt.mk [] ((i + j) / 2 + 1, j) (by simp (decide := true) (maxSteps := 4000000) -implicitDefEqProofs only [S0, ↓reduceIte, Int.reduceAdd, Int.reduceSub, Int.reduceToNat, Int.reduceNeg, Nat.reduceAdd, Nat.reduceMul, Nat.reduceSub, reduceCtorEq]; try rfl) (by simp (decide := true) (maxSteps := 4000000) -implicitDefEqProofs only [S0, ↓reduceIte, Int.reduceAdd, Int.reduceSub, Int.reduceToNat, Int.reduceNeg, Nat.reduceAdd, Nat.reduceMul, Nat.reduceSub, reduceCtorEq]) ⟨by simp only; omega, by simp only; omega, by simp only; omega, by simp only; omega⟩ (by simp only; omega)
  ·have hc' : ¬ cmpF f.fd k < 0 := fun h => hc (decide_eq_true h)
   have : ¬ (i + j) / 2 < posE k l := fun h => hc (hit.2 h)
   simp (decide := true) (maxSteps := 4000000) -implicitDefEqProofs only [S0, ↓reduceIte, Int.reduceAdd, Int.reduceSub, Int.reduceToNat, Int.reduceNeg, Nat.reduceAdd, Nat.reduceMul, Nat.reduceSub, reduceCtorEq, hc']
   exact Nxt.mk [] (i, (i + j) / 2) (by simp (decide := true) (maxSteps := 4000000) -implicitDefEqProofs only [S0, ↓reduceIte, Int.reduceAdd, Int.reduceSub, Int.reduceToNat, Int.reduceNeg, Nat.reduceAdd, Nat.reduceMul, Nat.reduceSub, reduceCtorEq]; try rfl) (by simp (decide := true) (maxSteps := 4000000) -implicitDefEqProofs only [S0, ↓reduceIte, Int.reduceAdd, Int.reduceSub, Int.reduceToNat, Int.reduceNeg, Nat.reduceAdd, Nat.reduceMul, Nat.reduceSub, reduceCtorEq]) ⟨by simp only; omega, by simp only; omega, by simp only; omega, by simp only; omega⟩ (by simp only; omega)
 ·obtain rfl : i = posE k l := by omega
  by_cases hn : ((posE k l : Nat) : Int) < l.length
  ·obtain ⟨f, hf⟩ := get_lt hn
   have hany := anyE_at hs hf
   simp (decide := true) (maxSteps := 4000000) -implicitDefEqProofs only [S0, ↓reduceIte, Int.reduceAdd, Int.reduceSub, Int.reduceToNat, Int.reduceNeg, Nat.reduceAdd, Nat.reduceMul, Nat.reduceSub, reduceCtorEq, h, hn, hf]
   refine call_eq (cmpE_ok f k) ?_
   rw [hany]
   by_cases hc : f.fd = k
   ·have hc' : (cmpF f.fd k == 0) = true := by rw [beq_iff_eq]; exact (cmpF_zero _ _).2 hc
    simp (decide := true) (maxSteps := 4000000) -implicitDefEqProofs only [S0, ↓reduceIte, Int.reduceAdd, Int.reduceSub, Int.reduceToNat, Int.reduceNeg, Nat.reduceAdd, Nat.reduceMul, Nat.reduceSub, reduceCtorEq, hc']
    simp [hc]
   ·have hc' : (cmpF f.fd k == 0) = false := by
     rw [Bool.eq_false_iff]
     intro h
     rw [beq_iff_eq] at h
     exact hc ((cmpF_zero _ _).1 h)
    simp (decide := true) (maxSteps := 4000000) -implicitDefEqProofs only [S0, ↓reduceIte, Int.reduceAdd, Int.reduceSub, Int.reduceToNat, Int.reduceNeg, Nat.reduceAdd, Nat.reduceMul, Nat.reduceSub, reduceCtorEq, hc']
    simp [hc]
  ·have hnone := anyE_none (k := k) hs (by omega)
   simp (decide := true) (maxSteps := 4000000) -implicitDefEqProofs only [S0, ↓reduceIte, Int.reduceAdd, Int.reduceSub, Int.reduceToNat, Int.reduceNeg, Nat.reduceAdd, Nat.reduceMul, Nat.reduceSub, reduceCtorEq, h, hn, hnone]
end Go.Proofs.Ytpdenloeacaadaa.E
