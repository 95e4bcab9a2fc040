/- Walks: an index that is made, noted, read. No conditions. -/
import Derived.Test.YtpdenloeacaadaaDropW
import Derived.Test.YtpdenloeacaadaaNestE
import Derived.Test.YtpdenloeacaadaaGSo
namespace Go.Proofs.Ytpdenloeacaadaa.E
open Go
set_option linter.unusedSimpArgs false
set_option linter.unusedVariables false
set_option linter.unusedSectionVars false
set_option maxRecDepth 20000
set_option maxHeartbeats 2000000
/-- What is read of a name. -/
abbrev recOf (l : List Vn) (id : ByteArray) : Rc := (getN l id).getD noRec
def newN (l : List Vn) (ids : List ByteArray) : Es := ids.foldl (fun es id => addL (recOf l id).id (recOf l id).fields es) []
def newL (l : List Vn) : Es := newN l (idsL l)
theorem newN_snoc (l : List Vn) (ids : List ByteArray) (id : ByteArray) : newN l (ids ++ [id]) = addL (recOf l id).id (recOf l id).fields (newN l ids) := by
 unfold newN; rw [List.foldl_append]; rfl
theorem recOf_len {l : List Vn} (h : chkSt l = 0) (id : ByteArray) : (recOf l id).fields.length ≤ 6 := by
 unfold recOf
 cases hg : getN l id with
 | none => simp
 | some r =>
  obtain ⟨_, v, hv, rfl⟩ := getN_some hg
  exact (chkRec_len ((chkSt_len h).2 v hv)).1
theorem EsUp_nil : EsUp [] := ⟨List.Pairwise.nil, fun e he => by cases he⟩
theorem newN_up (l : List Vn) (ids : List ByteArray) : EsUp (newN l ids) := by
 have key : ∀ (ids : List ByteArray) (es : Es), EsUp es → EsUp (ids.foldl (fun es id => addL (recOf l id).id (recOf l id).fields es) es) := fun ids => by
  induction ids with
  | nil => intro es h; exact h
  | cons i ids ih => intro es h; exact ih _ (addL_up h)
 exact key ids [] EsUp_nil
theorem EsB.mono {m k m' k' : Nat} {es : Es} (h : EsB m k es) (h1 : m ≤ m') (h2 : k ≤ k') : EsB m' k' es := ⟨Nat.le_trans h.1 h1, fun e he => Nat.le_trans (h.2 e he) h2⟩
/-- A list of names once each: so many of them as there are names at most. -/
theorem newN_B {l : List Vn} (h : chkSt l = 0) : ∀ (n : Nat) (ids : List ByteArray), ids.length = n → EsB (6 * n) (6 * n) (newN l ids) := by
 intro n
 induction n with
 | zero => intro ids hi; rw [List.length_eq_zero_iff] at hi; subst hi; exact ⟨Nat.zero_le _, fun e he => by cases he⟩
 | succ n ih =>
  intro ids hi
  obtain ⟨x, ids', rfl⟩ : ∃ x ids', ids = ids' ++ [x] := by
   rcases List.eq_nil_or_concat ids with rfl | ⟨ids', x, rfl⟩
   ·simp at hi
   ·exact ⟨x, ids', by simp⟩
  rw [newN_snoc]
  have h1 := addL_B (id := (recOf l x).id) (fs := (recOf l x).fields) (newN_up l ids') (ih ids' (by simpa using hi))
  have := recOf_len h x
  exact h1.mono (by omega) (by omega)
theorem idsL_len (l : List Vn) : (idsL l).length ≤ l.length := by
 unfold idsL
 rw [sortL_len]
 exact Nat.le_trans (List.length_filter_le _ _) (dist_len l)
theorem NxtE.pre {σ : Type} {ids : List Nat} {vals : σ → List AV} {hps : σ → Hp} {inv : σ → Prop} {meas : σ → Nat} {n M : Nat} {st st' : ASt} (h : Less st st') (k : NxtE ids vals hps inv meas n M st') : NxtE ids vals hps inv meas n M st := by
 obtain ⟨m, h1, h2⟩ := k
 exact ⟨m, h1, Less.transE h h2⟩
theorem ALoop.stE0 {σ : Type} {W : (Ex → ASt → Prop) → ASt → Prop} {K : Ex → ASt → Prop} {st : ASt} {n : Nat} (ids : List Nat) (vals : σ → List AV) (hps : σ → Hp) (inv : σ → Prop) (meas : σ → Nat) (M : Nat) (h : NxtE ids vals hps inv meas n M st)
  (hr : ∀ s, inv s → W (Ex.then (NxtE ids vals hps inv meas n (meas s)) K) (atHead ids (vals s) (hps s) n)) : ALoop W K st := by
 obtain ⟨m, _, h2⟩ := h
 refine ALoop.invE (fun m st => ∃ s, inv s ∧ m = meas s ∧ st = atHead ids (vals s) (hps s) n) m h2 ?_
 rintro m st ⟨s, hs, rfl, rfl⟩
 exact hr s hs
theorem New_ok (l : List Vn) (h : chkSt l = 0) (hl : l.length ≤ 1000) : OkH Try.prog 14 [vers l] [] (.tup [.ptr (.e 0) 1 0, I 0]) [(1, .sem (IXR (newL l)))] := by
 refine OkH.of_wp (rs := [.tmp 2, .tmp 3]) (n := 38) [some (.l 20)] Try.func14 rfl rfl rfl (by simp) fo (by kernel_rfl) ?_
 simp (decide := true) (maxSteps := 4000000) -implicitDefEqProofs only [S0, ↓reduceIte, Int.reduceAdd, Int.reduceSub, Int.reduceToNat, Int.reduceNeg, Nat.reduceAdd, Nat.reduceMul, Nat.reduceSub, reduceCtorEq]
 refine call_eq (Ids_ok l) ?_
 simp (decide := true) (maxSteps := 4000000) -implicitDefEqProofs only [S0, ↓reduceIte, Int.reduceAdd, Int.reduceSub, Int.reduceToNat, Int.reduceNeg, Nat.reduceAdd, Nat.reduceMul, Nat.reduceSub, reduceCtorEq, h]
 refine ALoop.stE0 [0, 6, 21, 22, 23] (fun j : Nat => [vers l, .ptr (.l 20) 1 0, strs (idsL l), I (idsL l).length, I j]) (fun j => [(.l 20, 1, .sem (IXR (newN l ((idsL l).take j))))]) (fun j => j ≤ (idsL l).length) (fun j => (idsL l).length - j) ((idsL l).length + 1) (NxtE.pre (toSem (s := .l 20) (v := 1) rfl) (NxtE.mk 0 (by simp (decide := true) (maxSteps := 4000000) -implicitDefEqProofs only [S0, ↓reduceIte, Int.reduceAdd, Int.reduceSub, Int.reduceToNat, Int.reduceNeg, Nat.reduceAdd, Nat.reduceMul, Nat.reduceSub, reduceCtorEq]) (by simp (decide := true) (maxSteps := 4000000) -implicitDefEqProofs only [S0, ↓reduceIte, Int.reduceAdd, Int.reduceSub, Int.reduceToNat, Int.reduceNeg, Nat.reduceAdd, Nat.reduceMul, Nat.reduceSub, reduceCtorEq]; rfl) (Nat.zero_le _) (by omega))) ?_
 intro j hj
 have hil := idsL_len l
 by_cases hlt : (j : Int) < (idsL l).length
 ·obtain ⟨id, hid⟩ := lt_get (l := idsL l) (i := j) (by omega)
  have hw := wr_add1 hlt (by omega)
  have hB := (newN_B h j ((idsL l).take j) (by rw [List.length_take]; omega))
  have hr6 := recOf_len h id
  have hsn : newN l ((idsL l).take (j + 1)) = addL (recOf l id).id (recOf l id).fields (newN l ((idsL l).take j)) := by rw [take_get hid, newN_snoc]
  simp (decide := true) (maxSteps := 4000000) -implicitDefEqProofs only [S0, ↓reduceIte, Int.reduceAdd, Int.reduceSub, Int.reduceToNat, Int.reduceNeg, Nat.reduceAdd, Nat.reduceMul, Nat.reduceSub, reduceCtorEq, hlt, hid]
  refine call_eq (Get_ok l id) ?_
  rw [if_pos h]
  simp (decide := true) (maxSteps := 4000000) -implicitDefEqProofs only [S0, ↓reduceIte, Int.reduceAdd, Int.reduceSub, Int.reduceToNat, Int.reduceNeg, Nat.reduceAdd, Nat.reduceMul, Nat.reduceSub, reduceCtorEq]
  refine callH (add_ok _ (recOf l id) (newN_up l _) (hB.mono (by omega) (by omega)) (by omega)) [.l 20] ?_
  simp (decide := true) (maxSteps := 4000000) -implicitDefEqProofs only [S0, ↓reduceIte, Int.reduceAdd, Int.reduceSub, Int.reduceToNat, Int.reduceNeg, Nat.reduceAdd, Nat.reduceMul, Nat.reduceSub, reduceCtorEq, imp_self]
  refine NxtE.mk (j + 1) (by simp (decide := true) (maxSteps := 4000000) -implicitDefEqProofs only [S0, ↓reduceIte, Int.reduceAdd, Int.reduceSub, Int.reduceToNat, Int.reduceNeg, Nat.reduceAdd, Nat.reduceMul, Nat.reduceSub, reduceCtorEq, hw]) (by simp (decide := true) (maxSteps := 4000000) -implicitDefEqProofs only [S0, ↓reduceIte, Int.reduceAdd, Int.reduceSub, Int.reduceToNat, Int.reduceNeg, Nat.reduceAdd, Nat.reduceMul, Nat.reduceSub, reduceCtorEq, hsn]) (by omega) (by omega)
 ·have hjl : j = (idsL l).length := by omega
  subst hjl
  simp (decide := true) (maxSteps := 4000000) -implicitDefEqProofs only [S0, ↓reduceIte, Int.reduceAdd, Int.reduceSub, Int.reduceToNat, Int.reduceNeg, Nat.reduceAdd, Nat.reduceMul, Nat.reduceSub, reduceCtorEq, hlt]
  rw [List.take_length]
  rfl
end Go.Proofs.Ytpdenloeacaadaa.E
