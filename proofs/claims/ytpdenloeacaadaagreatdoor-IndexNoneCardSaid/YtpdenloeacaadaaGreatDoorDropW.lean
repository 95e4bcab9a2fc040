/- Walks: an index's drop. No conditions. -/
import Derived.Test.YtpdenloeacaadaaGreatDoorAddW
namespace Go.Proofs.YtpdenloeacaadaaGreatDoor.E
open Go
set_option linter.unusedSimpArgs false
set_option linter.unusedVariables false
set_option linter.unusedSectionVars false
set_option maxRecDepth 20000
set_option maxHeartbeats 2000000
def flt (id : ByteArray) (e : Fd × List ByteArray) : Fd × List ByteArray := (e.1, e.2.filter fun x => !decide (x = id))
def dropN (id : ByteArray) (i : Nat) (es : Es) : Es := (es.take i).map (flt id) ++ es.drop i
theorem dropN_get {id : ByteArray} {i : Nat} {es : Es} {e : Fd × List ByteArray} (h : es[i]? = some e) : (dropN id i es)[i]? = some e ∧ dropN id (i + 1) es = (dropN id i es).set i (flt id e) := by
 obtain ⟨hi, he⟩ := List.getElem?_eq_some_iff.1 h
 have h1 : ((es.take i).map (flt id)).length = i := by rw [List.length_map, List.length_take]; omega
 have h2 : es.drop i = e :: es.drop (i + 1) := by rw [← he, List.drop_eq_getElem_cons hi]
 unfold dropN
 constructor
 ·rw [List.getElem?_append_right (by omega), h1, h2]; simp
 ·rw [List.set_append_right _ _ (by omega), h1, h2, take_get h, List.map_append]; simp
theorem filter_none {id : ByteArray} {l : List ByteArray} (h : (l.any fun f => decide (f = id)) = false) : l.filter (fun x => !decide (x = id)) = l := List.filter_eq_self.2 fun x hx => by
 rw [Bool.not_eq_true']
 rw [Bool.eq_false_iff] at h ⊢
 exact fun e => h (List.any_eq_true.2 ⟨x, hx, e⟩)
def full (p : PE) : Bool := !decide (p.1.n = 0)
theorem kept_full (l : List PE) : keptE (l.map (·.1)) = (l.filter full).map (·.1) := by
 unfold keptE
 rw [List.filter_map]
 rfl
theorem names_full {l : List PE} : ∀ x y w, NamesR l x y w → NamesR (l.filter full) x y w := fun x y w h =>
 ⟨h.1, fun p hp => h.2.1 p (List.mem_filter.1 hp).1, h.2.2.filter _⟩
theorem es_full {l : List PE} (h : ∀ p ∈ l, p.1.n = p.2.length) : esOf (l.filter full) = (esOf l).filter fun e => !e.2.isEmpty := by
 induction l with
 | nil => rfl
 | cons p l ih =>
  have ih := ih fun q hq => h q (List.mem_cons_of_mem _ hq)
  have hp := h p (by simp)
  have e1 : esOf (p :: l) = (p.1.fd, p.2) :: esOf l := rfl
  have e2 : full p = !p.2.isEmpty := by
   unfold full
   rw [hp]
   cases p.2 <;> simp
  rw [e1, List.filter_cons, List.filter_cons, e2]
  split
  ·rw [← ih]; rfl
  ·exact ih
theorem delX_ok (l : List PE) (hl : l.length ≤ 45000) : OkH Tryz.prog 53 [.own (.e 0) 0 3 0 l.length, .func 54 []] [.rowx 68 3 (cellsN l)] (.own (.e 0) 0 3 0 (l.filter full).length) [(0, .rowx 68 3 (cellsN (l.filter full)))] := by
 have h := delE_ok (l.map (·.1)) (by rw [List.length_map]; omega)
 rw [kept_full, List.length_map, List.length_map] at h
 exact OkH.bare (rowsN_len l) (rowsN_free l) h
theorem drop_ok (es : Es) (id : ByteArray) (hes : EsUp es) (hb : EsB 40000 9000 es) : OkH Tryz.prog 29 [.ptr (.e 0) 0 0, S id] [.sem (IXR es)] (.val (.tuple #[])) [(0, .sem (IXR (dropL id es)))] := by
 refine OkH.of_open (n := 52) Tryz.func29 rfl rfl rfl (by simp) fo (by kernel_rfl) fun l0 hl0 hn0 => ?_
 have hl00 : l0.length = es.length := by rw [← hl0, esOf_len]
 simp (decide := true) (maxSteps := 4000000) -implicitDefEqProofs only [S0, ↓reduceIte, Int.reduceAdd, Int.reduceSub, Int.reduceToNat, Int.reduceNeg, Nat.reduceAdd, Nat.reduceMul, Nat.reduceSub, reduceCtorEq]
 refine ALoop.stE [0, 1, 12, 13] (fun s : Nat × List PE => [.ptr (.e 0) 0 0, S id, I es.length, I s.1]) (fun s => openHp s.2 1 []) (fun s => s.1 ≤ es.length ∧ esOf s.2 = dropN id s.1 es ∧ s.2.length = es.length ∧ ∀ p ∈ s.2, p.1.n = p.2.length) (fun s => es.length - s.1) (0, l0) (by simp (decide := true) (maxSteps := 4000000) -implicitDefEqProofs only [S0, ↓reduceIte, Int.reduceAdd, Int.reduceSub, Int.reduceToNat, Int.reduceNeg, Nat.reduceAdd, Nat.reduceMul, Nat.reduceSub, reduceCtorEq, hl00]) (by simp (decide := true) (maxSteps := 4000000) -implicitDefEqProofs only [S0, ↓reduceIte, Int.reduceAdd, Int.reduceSub, Int.reduceToNat, Int.reduceNeg, Nat.reduceAdd, Nat.reduceMul, Nat.reduceSub, reduceCtorEq, toLN]) ⟨Nat.zero_le _, by simp [dropN, hl0], hl00, hn0⟩ ?_
 rintro ⟨i, l⟩ ⟨hi, hle, hll, hnn⟩
 simp only at hi hle hll hnn
 have hle9 : es.length ≤ 40000 := hb.1
 by_cases h : (i : Int) < es.length
 ·obtain ⟨e, he⟩ := lt_get (l := es) (i := i) (by omega)
  obtain ⟨g1, g2⟩ := dropN_get (id := id) he
  rw [← hle] at g1 g2
  obtain ⟨p, hp, hpf, hpn⟩ := esOf_get g1
  have hw := wr_add1 h (by omega)
  obtain ⟨c1, c2⟩ := cellsN_at hp
  have hlt := (List.getElem?_eq_some_iff.1 hp).1
  have hlc := cellsN_len l
  have hpu : StrUp p.2 := by rw [hpn]; exact (hes.2 e (List.mem_of_getElem? he)).1
  have hpl : p.2.length ≤ 9000 := by have := hb.2 e (List.mem_of_getElem? he); rw [← hpn] at this; omega
  simp (decide := true) (maxSteps := 4000000) -implicitDefEqProofs only [S0, ↓reduceIte, Int.reduceAdd, Int.reduceSub, Int.reduceToNat, Int.reduceNeg, Nat.reduceAdd, Nat.reduceMul, Nat.reduceSub, reduceCtorEq, h, hll, stsN, rnN, subN, imp_self, c1]
  refine callH (bsR_ok l p (List.mem_of_getElem? hp) id (by omega) hpu) [.e 1000000] ?_
  cases hA : (p.2.any fun f => decide (f = id)) with
  | false =>
   have hE : flt id e = e := by
    unfold flt
    rw [← hpn, filter_none hA, hpn]
   simp (decide := true) (maxSteps := 4000000) -implicitDefEqProofs only [S0, ↓reduceIte, Int.reduceAdd, Int.reduceSub, Int.reduceToNat, Int.reduceNeg, Nat.reduceAdd, Nat.reduceMul, Nat.reduceSub, reduceCtorEq, stsN, rnN, subN, imp_self]
   refine NxtE.mk (i + 1, l) (by simp (decide := true) (maxSteps := 4000000) -implicitDefEqProofs only [S0, ↓reduceIte, Int.reduceAdd, Int.reduceSub, Int.reduceToNat, Int.reduceNeg, Nat.reduceAdd, Nat.reduceMul, Nat.reduceSub, reduceCtorEq, hw]) (by simp (decide := true) (maxSteps := 4000000) -implicitDefEqProofs only [S0, ↓reduceIte, Int.reduceAdd, Int.reduceSub, Int.reduceToNat, Int.reduceNeg, Nat.reduceAdd, Nat.reduceMul, Nat.reduceSub, reduceCtorEq, toLN]) ⟨by simp only; omega, ?_, hll, hnn⟩ (by simp only; omega)
   simp only
   rw [g2, hE]
   obtain ⟨h1, h2⟩ := List.getElem?_eq_some_iff.1 g1
   rw [← h2, List.set_getElem_self]
  | true =>
   obtain ⟨d1, d2⟩ := del_at hpu hA
   have hw2 := wr_add1 (n := p.2.length) (i := posS id p.2) (by omega) (by omega)
   simp (decide := true) (maxSteps := 4000000) -implicitDefEqProofs only [S0, ↓reduceIte, Int.reduceAdd, Int.reduceSub, Int.reduceToNat, Int.reduceNeg, Nat.reduceAdd, Nat.reduceMul, Nat.reduceSub, reduceCtorEq, stsN, rnN, subN, imp_self, c1, hw2]
   refine callH (delR_ok l i p hp (posS id p.2) d1 (by omega)) [.e 1000000, .l 40] ?_
   obtain ⟨ns, hns⟩ : ∃ ns, ns = p.2.filter fun x => !decide (x = id) := ⟨_, rfl⟩
   rw [d2, ← hns]
   have hnl : ns.length = p.2.length - 1 := by rw [hns, ← d2, List.length_append, List.length_take, List.length_drop]; omega
   simp (decide := true) (maxSteps := 4000000) -implicitDefEqProofs only [S0, ↓reduceIte, Int.reduceAdd, Int.reduceSub, Int.reduceToNat, Int.reduceNeg, Nat.reduceAdd, Nat.reduceMul, Nat.reduceSub, reduceCtorEq, stsN, rnN, subN, imp_self, hlc, c2]
   have cs1 : ∀ a cp, (cellsN l).set (i * 3 + 2) (.val (.slice a (p.2.length - 1) cp)) = cellsN (l.set i (⟨p.1.fd, a, p.2.length - 1, cp⟩, ns)) := fun a cp => cellsN_set hp a _ cp ns
   refine ⟨by omega, NxtE.merge (.e 1000000) (.l 40) (.l 999) (l := l) (i := i) (f := p.1.fd) (ns := ns) (i * 3 + 2) (es.length - (i + 1)) (fun a cp => (i + 1, l.set i (⟨p.1.fd, a, p.2.length - 1, cp⟩, ns))) rfl rfl rfl (by rw [List.getElem?_set_self (by omega), hnl]) hlt (by omega) fun a cp => ⟨by simp (decide := true) (maxSteps := 4000000) -implicitDefEqProofs only [S0, ↓reduceIte, Int.reduceAdd, Int.reduceSub, Int.reduceToNat, Int.reduceNeg, Nat.reduceAdd, Nat.reduceMul, Nat.reduceSub, reduceCtorEq, hw], by simp (decide := true) (maxSteps := 4000000) -implicitDefEqProofs only [S0, ↓reduceIte, Int.reduceAdd, Int.reduceSub, Int.reduceToNat, Int.reduceNeg, Nat.reduceAdd, Nat.reduceMul, Nat.reduceSub, reduceCtorEq, List.set_set, cs1, toLN, List.length_set, hnl, hll], ⟨by simp only; omega, ?_, by simp only; rw [List.length_set]; exact hll, ?_⟩, rfl⟩⟩
   ·simp only
    rw [esOf_set, g2]
    unfold flt
    rw [← hpn, ← hns, hpf]
   ·intro q hq
    rcases mem_set_ne hq with rfl | ⟨j, _, hj⟩
    ·exact hnl.symm
    ·exact hnn q (List.mem_of_getElem? hj)
 ·have hil : i = es.length := by omega
  subst hil
  simp (decide := true) (maxSteps := 4000000) -implicitDefEqProofs only [S0, ↓reduceIte, Int.reduceAdd, Int.reduceSub, Int.reduceToNat, Int.reduceNeg, Nat.reduceAdd, Nat.reduceMul, Nat.reduceSub, reduceCtorEq, h, hll, stsN]
  refine callH (delX_ok l (by omega)) [.l 999] ?_
  simp (decide := true) (maxSteps := 4000000) -implicitDefEqProofs only [S0, ↓reduceIte, Int.reduceAdd, Int.reduceSub, Int.reduceToNat, Int.reduceNeg, Nat.reduceAdd, Nat.reduceMul, Nat.reduceSub, reduceCtorEq, hll, stsN, rnN, subN]
  refine ⟨.l 999, 1, 1, l.filter full, ?_, rfl, rfl, _, rfl, names_full⟩
  rw [es_full hnn, hle]
  unfold dropN dropL
  rw [List.take_length, List.drop_length, List.append_nil]
  rfl
end Go.Proofs.YtpdenloeacaadaaGreatDoor.E
