/- Walks: an index's add. No conditions. -/
import Derived.Test.YtpdenloeacaadaaNestD
import Derived.Test.YtpdenloeacaadaaIdxL
namespace Go.Proofs.Ytpdenloeacaadaa.E
open Go
set_option linter.unusedSimpArgs false
set_option linter.unusedVariables false
set_option linter.unusedSectionVars false
set_option maxRecDepth 20000
set_option maxHeartbeats 2000000
theorem esOf_RE (l : List PE) : (l.map (·.1)).map (·.fd) = (esOf l).map (·.1) := by unfold esOf; simp
theorem posE_es (k : Fd) (l : List PE) : posE k (l.map (·.1)) = posF k (esOf l) := by
 unfold posE posF esOf
 rw [List.filter_map, List.length_map, List.filter_map, List.length_map]
 rfl
theorem anyE_es (k : Fd) (l : List PE) : ((l.map (·.1)).any fun f => decide (f.fd = k)) = isF k (esOf l) := by
 unfold isF esOf
 rw [List.any_map, List.any_map]
 rfl
theorem up_es {l : List PE} (h : EsUp (esOf l)) : EntUp (l.map (·.1)) := by
 have h1 := h.1
 unfold esOf at h1
 unfold EntUp
 rw [List.pairwise_map] at h1 ⊢
 exact h1
theorem esOf_len (l : List PE) : (esOf l).length = l.length := by unfold esOf; simp
theorem esOf_get {l : List PE} {i : Nat} {e : Fd × List ByteArray} (h : (esOf l)[i]? = some e) : ∃ p, l[i]? = some p ∧ p.1.fd = e.1 ∧ p.2 = e.2 := by
 unfold esOf at h
 rw [List.getElem?_map] at h
 obtain ⟨p, hp, rfl⟩ := Option.map_eq_some_iff.1 h
 exact ⟨p, hp, rfl, rfl⟩
theorem esOf_set (l : List PE) (i : Nat) (p : PE) : esOf (l.set i p) = (esOf l).set i (p.1.fd, p.2) := by unfold esOf; rw [List.map_set]
theorem esOf_ins (l : List PE) (i : Nat) (p : PE) : esOf (l.take i ++ [p] ++ l.drop i) = (esOf l).take i ++ [(p.1.fd, p.2)] ++ (esOf l).drop i := by unfold esOf; simp
theorem ins_hole {l : List PE} {i : Nat} (hi : i ≤ l.length) (f : Fd) (p : PE) : (l.take i ++ [hole f] ++ l.drop i)[i]? = some (hole f) ∧ (l.take i ++ [hole f] ++ l.drop i).set i p = l.take i ++ [p] ++ l.drop i ∧ i < (l.take i ++ [hole f] ++ l.drop i).length := by
 have h1 : (l.take i).length = i := by rw [List.length_take]; omega
 refine ⟨?_, ?_, ?_⟩
 ·rw [List.append_assoc, List.getElem?_append_right (by omega), h1]; simp
 ·rw [List.append_assoc, List.append_assoc, List.set_append_right _ _ (by omega), h1]; simp
 ·simp only [List.length_append, h1, List.length_singleton]; omega
theorem names_hole {l : List PE} {i : Nat} (f : Fd) : ∀ x y w, NamesR l x y w → NamesR (l.take i ++ [hole f] ++ l.drop i) x y w := fun x y w h => by
 refine ⟨h.1, fun p hp => ?_, ?_⟩
 ·rcases mem_ins.1 hp with hp | rfl
  ·exact h.2.1 p hp
  ·exact nmOk_hole _ _ _
 ·exact pw_ins h.2.2 (fun p _ b _ h => by cases h) (fun p _ b h => by cases h)
theorem cellsN_app (a b : List PE) : cellsN (a ++ b) = cellsN a ++ cellsN b := by simp [cellsN]
theorem cellsN_len (l : List PE) : (cellsN l).length = l.length * 3 := by
 induction l with
 | nil => rfl
 | cons p l ih =>
  have h3 : (entC p.1).length = 3 := rfl
  rw [cellsN_cons, List.length_append, ih, h3, List.length_cons]; omega
theorem cellsN_at {l : List PE} {i : Nat} {p : PE} (h : l[i]? = some p) : (cellsN l).drop (i * 3 + 2) = .val (.slice p.1.a p.1.n p.1.c) :: cellsN (l.drop (i + 1)) ∧ ∀ x, (cellsN l).take (i * 3 + 2) ++ [x] ++ (cellsN l).drop (i * 3 + 2 + 1) = (cellsN l).set (i * 3 + 2) x := by
 obtain ⟨hi, he⟩ := List.getElem?_eq_some_iff.1 h
 have e : l = l.take i ++ p :: l.drop (i + 1) := by rw [← he, ← List.drop_eq_getElem_cons hi, List.take_append_drop]
 have h1 : (cellsN (l.take i)).length = i * 3 := by rw [cellsN_len, List.length_take, Nat.min_eq_left (by omega)]
 have e2 : cellsN l = cellsN (l.take i) ++ (entC p.1 ++ cellsN (l.drop (i + 1))) := by
  conv => lhs; rw [e]
  rw [cellsN_app, cellsN_cons]
 constructor
 ·rw [e2, List.drop_append, List.drop_eq_nil_of_le (by omega), h1, show i * 3 + 2 - i * 3 = 2 by omega]; rfl
 ·intro x
  rw [List.set_eq_take_append_cons_drop, if_pos (by rw [cellsN_len]; omega), List.append_assoc]; rfl
theorem cellsN_set {l : List PE} {i : Nat} {p : PE} (h : l[i]? = some p) (a : Option Addr) (n c : Nat) (ns : List ByteArray) : (cellsN l).set (i * 3 + 2) (.val (.slice a n c)) = cellsN (l.set i (⟨p.1.fd, a, n, c⟩, ns)) := by
 obtain ⟨hi, he⟩ := List.getElem?_eq_some_iff.1 h
 have e : l = l.take i ++ p :: l.drop (i + 1) := by rw [← he, ← List.drop_eq_getElem_cons hi, List.take_append_drop]
 have h0 : (l.take i).length = i := by rw [List.length_take]; omega
 have h1 : (cellsN (l.take i)).length = i * 3 := by rw [cellsN_len, h0]
 generalize l.take i = A at *
 generalize l.drop (i + 1) = D at *
 subst e
 rw [List.set_append_right _ _ (by omega), h0, Nat.sub_self, List.set_cons_zero, cellsN_app, cellsN_app, cellsN_cons, cellsN_cons, List.set_append_right _ _ (by omega), h1, show i * 3 + 2 - i * 3 = 2 by omega]
 rfl
theorem stsN (l : List PE) : stsL (cellsN l) = [] := by
 induction l with
 | nil => rfl
 | cons p l ih =>
  rw [cellsN_cons]
  simp only [List.cons_append, List.nil_append, stsL, sts, ih]
theorem toLN (ad : List Site) (hp G : Hp) (l : List PE) : toL ad hp G (cellsN l) (cellsN l) = True := by
 induction l with
 | nil => simp only [cellsN, rowsN, List.map_nil, List.flatten_nil, toL]
 | cons p l ih =>
  rw [cellsN_cons]
  simp only [List.cons_append, List.nil_append, toL, toV, ih, and_self]
theorem rnN (g : Site → Nat → Option (Site × Nat)) (l : List PE) : rnL g (cellsN l) = cellsN l := by
 induction l with
 | nil => rfl
 | cons p l ih =>
  rw [cellsN_cons]
  simp only [List.cons_append, List.nil_append, rnL, rn, ih]
theorem subN (l : List PE) : SubC (cellsN l) (cellsN l) = True := eq_true (SubC.refl _)
theorem OkH.bare0 {P : Program} {f : FuncId} {args : List AV} {T : TypeId} {k v : Nat} {q : Option Nat} {rows R : List (List AV)} {hs : List Blk} {r : AV} {hs' : List (Nat × Blk)} (hk : ∀ x ∈ rows, x.length = k) (hf : rows.flatten.all AV.free = true) (h : OkH P f args (.row T k none rows :: hs) r ((v, .row T k q R) :: hs')) :
  OkH P f args (.rowx T k rows.flatten :: hs) r ((v, .rowx T k R.flatten) :: hs') := OkH.bare (Z := []) hk hf (by rw [List.append_nil]; exact h)
theorem bsX_ok (l : List PE) (k : Fd) (hl : l.length ≤ 45000) (hs : EsUp (esOf l)) : OkH Try.prog 45 [.own (.e 0) 0 3 0 l.length, fdV k, .func 46 []] [.rowx 104 3 (cellsN l)] (.tup [I (posF k (esOf l)), B (isF k (esOf l))]) [(0, .rowx 104 3 (cellsN l))] := by
 have h := bsE_ok (l.map (·.1)) k (by rw [List.length_map]; exact hl) (up_es hs)
 rw [List.length_map, posE_es, anyE_es] at h
 exact OkH.bare0 (rowsN_len l) (rowsN_free l) h
theorem insX_ok (l : List PE) (f : Fd) (i : Nat) (hl : l.length ≤ 45000) (hi : i ≤ l.length) : OkH Try.prog 61 [.own (.e 0) 0 3 0 l.length, I i, .own (.e 1) 0 3 0 1] [.rowx 104 3 (cellsN l), .row 104 3 none [entC ⟨f, none, 0, 0⟩]] (.own (.e 0) 1 3 0 (l.length + 1))
  [(1, .rowx 104 3 (cellsN (l.take i ++ [hole f] ++ l.drop i))), (0, .row 104 3 none [entC ⟨f, none, 0, 0⟩])] := by
 have h := insE_ok (l.map (·.1)) ⟨f, none, 0, 0⟩ i (by rw [List.length_map]; omega) (by rw [List.length_map]; exact hi)
 rw [List.length_map] at h
 have e : cellsN (l.take i ++ [hole f] ++ l.drop i) = (((l.map Prod.fst).take i ++ [(⟨f, none, 0, 0⟩ : RE)] ++ (l.map Prod.fst).drop i).map entC).flatten := by
  unfold cellsN rowsN; simp [hole]
 rw [e]
 exact OkH.bare0 (rowsN_len l) (rowsN_free l) h
abbrev recC (r : Rc) : List AV := [S r.id, I r.cats, fds r.fields, strs r.refs]
abbrev addHp (r : Rc) (s : Nat × Nat × List PE) : Hp := openHp s.2.2 s.2.1 [(.l 3, 1, .cells 35 (recC r))]
theorem add_ok (es : Es) (r : Rc) (hes : EsUp es) (hb : EsB (40000 - r.fields.length) (9000 - r.fields.length) es) (hr : r.fields.length ≤ 900) : OkH Try.prog 44 [.ptr (.e 0) 0 0, recV r] [.sem (IXR es)] (.val (.tuple #[])) [(0, .sem (IXR (addL r.id r.fields es)))] := by
 refine OkH.of_open (n := 72) Try.func44 rfl rfl rfl (by simp) fo (by kernel_rfl) fun l0 hl0 _ => ?_
 simp (decide := true) (maxSteps := 4000000) -implicitDefEqProofs only [S0, ↓reduceIte, Int.reduceAdd, Int.reduceSub, Int.reduceToNat, Int.reduceNeg, Nat.reduceAdd, Nat.reduceMul, Nat.reduceSub, reduceCtorEq]
 refine ALoop.stE [0, 3, 12, 13, 14] (fun s : Nat × Nat × List PE => [.ptr (.e 0) 0 0, .ptr (.l 3) 1 0, fds r.fields, I r.fields.length, I s.1]) (addHp r) (fun s => s.1 ≤ r.fields.length ∧ esOf s.2.2 = addL r.id (r.fields.take s.1) es) (fun s => r.fields.length - s.1) (0, 1, l0) (by simp (decide := true) (maxSteps := 4000000) -implicitDefEqProofs only [S0, ↓reduceIte, Int.reduceAdd, Int.reduceSub, Int.reduceToNat, Int.reduceNeg, Nat.reduceAdd, Nat.reduceMul, Nat.reduceSub, reduceCtorEq]) (by simp (decide := true) (maxSteps := 4000000) -implicitDefEqProofs only [S0, ↓reduceIte, Int.reduceAdd, Int.reduceSub, Int.reduceToNat, Int.reduceNeg, Nat.reduceAdd, Nat.reduceMul, Nat.reduceSub, reduceCtorEq, toLN]) ⟨Nat.zero_le _, by rw [List.take_zero]; exact hl0⟩ ?_
 rintro ⟨j, v, l⟩ ⟨hj, hle⟩
 simp only at hj hle
 have hup : EsUp (esOf l) := by rw [hle]; exact addL_up hes
 have hB := addL_B (id := r.id) (fs := r.fields.take j) hes hb
 rw [← hle, List.length_take, Nat.min_eq_left hj] at hB
 have hln : l.length ≤ 40000 := by rw [← esOf_len]; have := hB.1; omega
 by_cases h : (j : Int) < r.fields.length
 ·obtain ⟨f, hf⟩ := lt_get (l := r.fields) (i := j) (by omega)
  have hw := wr_add1 h (by omega)
  have hsn : addL r.id (r.fields.take (j + 1)) es = add1 r.id f (esOf l) := by rw [take_get hf, addL_snoc, hle]
  simp (decide := true) (maxSteps := 4000000) -implicitDefEqProofs only [S0, ↓reduceIte, Int.reduceAdd, Int.reduceSub, Int.reduceToNat, Int.reduceNeg, Nat.reduceAdd, Nat.reduceMul, Nat.reduceSub, reduceCtorEq, h, hf, stsN, rnN, subN, imp_self]
  refine callH (bsX_ok l f (by omega) hup) [.l 999] ?_
  generalize hi : posF f (esOf l) = i
  have hil : i ≤ l.length := by rw [← hi, ← esOf_len]; exact posF_le _ _
  cases hF : isF f (esOf l) with
  | false =>
   obtain ⟨l1, hl1⟩ : ∃ l1, l1 = l.take i ++ [hole f] ++ l.drop i := ⟨_, rfl⟩
   have hI := insX_ok l f i (by omega) hil
   rw [← hl1] at hI
   obtain ⟨q1, q2, q3⟩ := ins_hole hil f (hole f)
   have hln1 : l1.length = l.length + 1 := by rw [hl1]; simp only [List.length_append, List.length_take, List.length_drop, List.length_singleton]; omega
   rw [← hl1] at q1 q3
   have hN : (∀ x y w, NamesR l x y w → NamesR l1 x y w) = True := eq_true (hl1 ▸ names_hole f)
   obtain ⟨c1, c2⟩ := cellsN_at q1
   have hi2 : ((i : Nat) : Int) < ((l.length + 1 : Nat) : Int) := by omega
   have hlc := cellsN_len l1
   simp (decide := true) (maxSteps := 4000000) -implicitDefEqProofs only [S0, ↓reduceIte, Int.reduceAdd, Int.reduceSub, Int.reduceToNat, Int.reduceNeg, Nat.reduceAdd, Nat.reduceMul, Nat.reduceSub, reduceCtorEq, stsN, rnN, subN, imp_self]
   refine callH hI [.l 999, .l 37] ?_
   simp (decide := true) (maxSteps := 4000000) -implicitDefEqProofs only [S0, ↓reduceIte, Int.reduceAdd, Int.reduceSub, Int.reduceToNat, Int.reduceNeg, Nat.reduceAdd, Nat.reduceMul, Nat.reduceSub, reduceCtorEq, stsN, rnN, subN, imp_self, hi2, c1]
   refine callH (bsR_ok l1 (hole f) (List.mem_of_getElem? q1) r.id (by simp [hole]) List.Pairwise.nil) [.e 1000000] ?_
   simp (decide := true) (maxSteps := 4000000) -implicitDefEqProofs only [S0, ↓reduceIte, Int.reduceAdd, Int.reduceSub, Int.reduceToNat, Int.reduceNeg, Nat.reduceAdd, Nat.reduceMul, Nat.reduceSub, reduceCtorEq, stsN, rnN, subN, imp_self, hN, c1, hole, posS, List.any_nil, List.filter_nil]
   refine callH (insR_ok l1 i (hole f) q1 r.id 0 (by simp) (by simp [hole])) [.e 1000000, .l 67, .l 68] ?_
   simp (decide := true) (maxSteps := 4000000) -implicitDefEqProofs only [S0, ↓reduceIte, Int.reduceAdd, Int.reduceSub, Int.reduceToNat, Int.reduceNeg, Nat.reduceAdd, Nat.reduceMul, Nat.reduceSub, reduceCtorEq, stsN, rnN, subN, imp_self, hole, hlc, c2]
   have cs1 : ∀ a cp, (cellsN l1).set (i * 3 + 2) (.val (.slice a 1 cp)) = cellsN (l1.set i (⟨f, a, 1, cp⟩, [r.id])) := fun a cp => cellsN_set q1 a 1 cp [r.id]
   have hE : add1 r.id f (esOf l) = (esOf l).take i ++ [(f, [r.id])] ++ (esOf l).drop i := by unfold add1; rw [if_neg (by rw [hF]; simp), hi]
   refine ⟨by omega, NxtE.merge (.e 1000000) (.l 68) (.l 999) (l := l1) (i := i) (f := f) (ns := [r.id]) (i * 3 + 2) (r.fields.length - (j + 1)) (fun a cp => (j + 1, v + 1, l1.set i (⟨f, a, 1, cp⟩, [r.id]))) rfl rfl rfl (by rw [List.getElem?_set_self (by omega)]; rfl) q3 (by omega) fun a cp => ⟨by simp (decide := true) (maxSteps := 4000000) -implicitDefEqProofs only [S0, ↓reduceIte, Int.reduceAdd, Int.reduceSub, Int.reduceToNat, Int.reduceNeg, Nat.reduceAdd, Nat.reduceMul, Nat.reduceSub, reduceCtorEq, hw], by simp (decide := true) (maxSteps := 4000000) -implicitDefEqProofs only [S0, ↓reduceIte, Int.reduceAdd, Int.reduceSub, Int.reduceToNat, Int.reduceNeg, Nat.reduceAdd, Nat.reduceMul, Nat.reduceSub, reduceCtorEq, List.set_set, cs1, toLN, List.length_set, hln1], ⟨by simp only; omega, ?_⟩, rfl⟩⟩
   simp only
   rw [hl1, (ins_hole hil f _).2.1, esOf_ins, hsn, hE]
  | true =>
   obtain ⟨e, he, hef⟩ := isF_at hup hF
   rw [hi] at he
   obtain ⟨p, hp, hpf, hpn⟩ := esOf_get he
   obtain ⟨c1, c2⟩ := cellsN_at hp
   have hlt := (List.getElem?_eq_some_iff.1 hp).1
   have hi2 : ((i : Nat) : Int) < (l.length : Int) := by omega
   have hlc := cellsN_len l
   have hpu : StrUp p.2 := by rw [hpn]; exact (hup.2 e (List.mem_of_getElem? he)).1
   have hpl : p.2.length ≤ 9000 := by have := hB.2 e (List.mem_of_getElem? he); rw [← hpn] at this; omega
   simp (decide := true) (maxSteps := 4000000) -implicitDefEqProofs only [S0, ↓reduceIte, Int.reduceAdd, Int.reduceSub, Int.reduceToNat, Int.reduceNeg, Nat.reduceAdd, Nat.reduceMul, Nat.reduceSub, reduceCtorEq, stsN, rnN, subN, imp_self, hi2, c1]
   refine callH (bsR_ok l p (List.mem_of_getElem? hp) r.id (by omega) hpu) [.e 1000000] ?_
   simp (decide := true) (maxSteps := 4000000) -implicitDefEqProofs only [S0, ↓reduceIte, Int.reduceAdd, Int.reduceSub, Int.reduceToNat, Int.reduceNeg, Nat.reduceAdd, Nat.reduceMul, Nat.reduceSub, reduceCtorEq, stsN, rnN, subN, imp_self, c1]
   cases hA : (p.2.any fun f => decide (f = r.id)) with
   | true =>
    simp (decide := true) (maxSteps := 4000000) -implicitDefEqProofs only [S0, ↓reduceIte, Int.reduceAdd, Int.reduceSub, Int.reduceToNat, Int.reduceNeg, Nat.reduceAdd, Nat.reduceMul, Nat.reduceSub, reduceCtorEq, stsN, rnN, subN, imp_self, c1]
    have hE : add1 r.id f (esOf l) = esOf l := by
     rw [add1_has hup hF (by rw [hi]; exact he), hi]
     have : insN r.id e.2 = e.2 := by unfold insN; rw [if_pos (by rw [← hpn]; exact hA)]
     rw [this, ← hef]
     obtain ⟨h1, h2⟩ := List.getElem?_eq_some_iff.1 he
     show (esOf l).set i e = esOf l
     rw [← h2, List.set_getElem_self]
    exact NxtE.mk (j + 1, v, l) (by simp (decide := true) (maxSteps := 4000000) -implicitDefEqProofs only [S0, ↓reduceIte, Int.reduceAdd, Int.reduceSub, Int.reduceToNat, Int.reduceNeg, Nat.reduceAdd, Nat.reduceMul, Nat.reduceSub, reduceCtorEq, hw]) (by simp (decide := true) (maxSteps := 4000000) -implicitDefEqProofs only [S0, ↓reduceIte, Int.reduceAdd, Int.reduceSub, Int.reduceToNat, Int.reduceNeg, Nat.reduceAdd, Nat.reduceMul, Nat.reduceSub, reduceCtorEq, toLN]) ⟨by simp only; omega, by simp only; rw [hsn, hE]⟩ (by simp only; omega)
   | false =>
    simp (decide := true) (maxSteps := 4000000) -implicitDefEqProofs only [S0, ↓reduceIte, Int.reduceAdd, Int.reduceSub, Int.reduceToNat, Int.reduceNeg, Nat.reduceAdd, Nat.reduceMul, Nat.reduceSub, reduceCtorEq, stsN, rnN, subN, imp_self, c1]
    refine callH (insR_ok l i p hp r.id (posS r.id p.2) (posS_le _ _) (by omega)) [.e 1000000, .l 67, .l 68] ?_
    simp (decide := true) (maxSteps := 4000000) -implicitDefEqProofs only [S0, ↓reduceIte, Int.reduceAdd, Int.reduceSub, Int.reduceToNat, Int.reduceNeg, Nat.reduceAdd, Nat.reduceMul, Nat.reduceSub, reduceCtorEq, stsN, rnN, subN, imp_self, hlc, c2]
    obtain ⟨ns, hns⟩ : ∃ ns, ns = p.2.take (posS r.id p.2) ++ [r.id] ++ p.2.drop (posS r.id p.2) := ⟨_, rfl⟩
    have hnl : ns.length = p.2.length + 1 := by rw [hns]; simp only [List.length_append, List.length_take, List.length_drop, List.length_singleton]; have := posS_le r.id p.2; omega
    rw [← hns]
    have cs1 : ∀ a cp, (cellsN l).set (i * 3 + 2) (.val (.slice a (p.2.length + 1) cp)) = cellsN (l.set i (⟨p.1.fd, a, p.2.length + 1, cp⟩, ns)) := fun a cp => cellsN_set hp a _ cp ns
    have hE : add1 r.id f (esOf l) = (esOf l).set i (f, ns) := by
     rw [add1_has hup hF (by rw [hi]; exact he), hi]
     unfold insN
     rw [← hpn, if_neg (by rw [hA]; simp), hns]
    refine ⟨by omega, NxtE.merge (.e 1000000) (.l 68) (.l 999) (l := l) (i := i) (f := p.1.fd) (ns := ns) (i * 3 + 2) (r.fields.length - (j + 1)) (fun a cp => (j + 1, v, l.set i (⟨p.1.fd, a, p.2.length + 1, cp⟩, ns))) rfl rfl rfl (by rw [List.getElem?_set_self (by omega), hnl]) hlt (by omega) fun a cp => ⟨by simp (decide := true) (maxSteps := 4000000) -implicitDefEqProofs only [S0, ↓reduceIte, Int.reduceAdd, Int.reduceSub, Int.reduceToNat, Int.reduceNeg, Nat.reduceAdd, Nat.reduceMul, Nat.reduceSub, reduceCtorEq, hw], by simp (decide := true) (maxSteps := 4000000) -implicitDefEqProofs only [S0, ↓reduceIte, Int.reduceAdd, Int.reduceSub, Int.reduceToNat, Int.reduceNeg, Nat.reduceAdd, Nat.reduceMul, Nat.reduceSub, reduceCtorEq, List.set_set, cs1, toLN, List.length_set, hnl], ⟨by simp only; omega, ?_⟩, rfl⟩⟩
    simp only
    rw [esOf_set, hsn, hE, hpf, hef]
 ·have hjl : j = r.fields.length := by omega
  subst hjl
  simp (decide := true) (maxSteps := 4000000) -implicitDefEqProofs only [S0, ↓reduceIte, Int.reduceAdd, Int.reduceSub, Int.reduceToNat, Int.reduceNeg, Nat.reduceAdd, Nat.reduceMul, Nat.reduceSub, reduceCtorEq, h]
  refine ⟨.l 999, v, 1, l, ?_, rfl, rfl, _, rfl, fun _ _ _ h => h⟩
  rw [hle, List.take_length]
end Go.Proofs.Ytpdenloeacaadaa.E
