/- Several texts in one: SortS Ids StrsF SortedS SlicesF FindA Hist HistP. No conditions. -/
import Derived.Test.YtpdenloeacaadaaGRe
import Derived.Test.YtpdenloeacaadaaShelf
import Derived.Test.YtpdenloeacaadaaGSt
namespace Go.Proofs.Ytpdenloeacaadaa.E
open Go
set_option linter.unusedSimpArgs false
set_option linter.unusedVariables false
set_option linter.unusedSectionVars false
set_option maxRecDepth 20000
set_option maxHeartbeats 1000000
def sortL (l : List ByteArray) : List ByteArray := ((l.map fun s => s.data.toList).mergeSort fun x y => decide (x ≤ y)).map fun b => ⟨b.toArray⟩
theorem sortL_len (l : List ByteArray) : (sortL l).length = l.length := by unfold sortL; simp
theorem flat_one (l : List ByteArray) : (l.map fun s => [S s]).flatten = l.map S := by
 induction l with
 | nil => rfl
 | cons x l ih => simp only [List.map_cons, List.flatten_cons, ih]; rfl
theorem rvl_strs {w : World} {Q : Nat → Prop} {l : List ByteArray} {vs : List Value} (h : RVL w Q (l.map S) vs) : vs = l.map Value.string := by
 induction l generalizing vs with
 | nil => simpa [RVL] using h
 | cons x l ih =>
  simp only [List.map_cons, RVL, RV] at h
  obtain ⟨_, _, rfl, ⟨rfl, _⟩, h⟩ := h
  rw [ih h]; rfl
theorem strs_rvl {w : World} {Q : Nat → Prop} (l : List ByteArray) : RVL w Q (l.map S) (l.map Value.string) := by
 induction l with
 | nil => simp [RVL]
 | cons x l ih =>
  simp only [List.map_cons, RVL, RV]
  exact ⟨_, _, rfl, ⟨rfl, rfl⟩, ih⟩
open _root_.Go.Sort _root_.Go.RowKit in
theorem sortS_ok (l : List ByteArray) (hl : l.length ≤ 1000000) : OkH Try.prog 59 [.own (.e 0) 0 1 0 l.length] [.row 9 1 none (l.map fun s => [S s])] (.val (.tuple #[])) [(0, .row 9 1 none ((sortL l).map fun s => [S s]))] := by
 intro w c vs hi hv
 have hget : Hp.get (hpE 0 ([Blk.row 9 1 none (l.map fun s => [S s])].map fun b => (0, b))) (.e 0) = (0, .row 9 1 none (l.map fun s => [S s])) := rfl
 simp only [RelL] at hv
 obtain ⟨u, us, rfl, hu, rfl⟩ := hv
 rcases row_block hi hget hu (by simp) with ⟨_, rfl, h0, _⟩ | ⟨b, cp, xs, rest, hloc, rfl, hle, hq, hcp, hb, hlen, hone, hr, hxl, hrc⟩
 ·have l0 : l = [] := List.eq_nil_of_length_eq_zero h0
  subst l0
  have hcon := Try.slices_Sort_string_none none 0 w
  refine hcon.mono ?_
  rintro e w' ⟨rfl, rfl⟩
  have e : sortL [] = [] := List.eq_nil_of_length_eq_zero (sortL_len [])
  rw [e]
  exact ⟨_, c, rfl, Ext.refl _ _, hi, by simp only [RelV]; exact ⟨trivial, rfl⟩⟩
 ·obtain ⟨_, hlv, h0, hkr, _⟩ := hi.row hget
  have hfl : (l.map fun s => [S s]).flatten = l.map S := flat_one l
  have hxs : xs = l.map Value.string := rvl_strs (by rw [hfl] at hr; exact hr)
  have hH : Holds encStr w b 0 (l.map fun s => s.data.toList).toArray := by
   intro j hj
   have hj' : j < l.length := by simpa using hj
   refine ⟨?_, by simp only [World.frozen?, hb]; simp⟩
   rw [Nat.zero_add, cell_block hb, hxs, List.getElem?_append_left (by simpa using hj'), List.getElem?_map, List.getElem?_eq_getElem hj', Option.map_some, getElem!_pos (l.map fun s => s.data.toList).toArray j hj]
   simp [encStr]
  have hcon := Try.slices_Sort_string b 0 cp (l.map fun s => s.data.toList) w hH (List.getElem?_eq_some_iff.1 (by simpa using hb)).1 (by rw [List.length_map]; omega)
  rw [List.length_map] at hcon
  refine hcon.mono ?_
  rintro e w' ⟨rfl, n, os, rfl⟩
  generalize hM : (l.map fun s => s.data.toList).mergeSort (fun x y => decide (x ≤ y)) = M
  have hML : M.length = l.length := by rw [← hM]; simp
  have hU : Upd w b (.cells (M.map encStr ++ rest).toArray 9 (0, 0)) (putRow encStr (Sort.ahead w n) b 0 M.toArray) := by
   refine ⟨rfl, rfl, rfl, by simp [Sort.ahead], ?_, ?_⟩
   ·have hb' : (Sort.ahead w n).heap[b]? = some (.cells (xs ++ rest).toArray 9 (0, 0)) := hb
    unfold putRow mapBlock
    simp only [Array.getElem?_modify, if_true, hb', Option.map_some, onCells]
    congr 2
    apply Array.ext_getElem?
    intro k
    unfold putCells
    rw [Array.getElem?_mapIdx]
    simp only [List.getElem?_toArray, Nat.zero_le, true_and, Nat.zero_add, Nat.sub_zero, List.size_toArray]
    by_cases hk : k < M.length
    ·rw [List.getElem?_append_left (by rw [hxs, List.length_map]; omega), List.getElem?_append_left (by simpa using hk), hxs, List.getElem?_map, List.getElem?_map, List.getElem?_eq_getElem hk, List.getElem?_eq_getElem (show k < l.length by omega)]
     simp [hk]
    ·rw [List.getElem?_append_right (by rw [hxs, List.length_map]; omega), List.getElem?_append_right (by simpa using hk), hxs, List.length_map, List.length_map, hML]
     have hk2 : ¬ k < l.length := by omega
     simp [hk, hk2]
   ·intro k hk
    unfold putRow mapBlock
    simp only [Array.getElem?_modify, if_neg (fun h : b = k => hk h.symm)]
    rfl
  have hrow := row_upd (rows := (sortL l).map fun s => [S s]) (vs := M.map encStr) (rest := rest) hi hlv hloc hU rfl hq hcp h0 (fun r hr => by obtain ⟨x, _, rfl⟩ := List.mem_map.1 hr; rfl)
   (by rw [← hlen, List.length_append, List.length_append, List.length_map, hML, hxs, List.length_map]) (by
    intro u hu
    rcases List.mem_append.1 hu with hu | hu
    ·obtain ⟨x, _, rfl⟩ := List.mem_map.1 hu; rfl
    ·exact hone u (List.mem_append_right _ hu)) (by
    rw [flat_one]
    have : M.map encStr = (sortL l).map Value.string := by unfold sortL; rw [hM, List.map_map]; rfl
    rw [this]
    exact strs_rvl _)
  obtain ⟨hE, hI⟩ := hrow
  generalize putRow encStr (Sort.ahead w n) b 0 M.toArray = w2 at hE hI hU
  have hold : ∀ k, k < w2.heap.size → (grow w2 os).heap[k]? = w2.heap[k]? := fun k hk => heap_grow_old w2 os hk
  have hE2 : Ext w2 c (grow w2 os) c := ⟨rfl, rfl, rfl, by simp [grow], fun k hk hn => ⟨hold k hk, hn⟩, rfl, fun _ => .inr ⟨rfl, rfl, id⟩⟩
  exact ⟨_, c, rfl, hE.trans hE2, hI.ext hE2 (fun k hk => hold k (hI.lt k hk)), by simp only [RelV]; exact ⟨trivial, rfl⟩⟩
end Go.Proofs.Ytpdenloeacaadaa.E

namespace Go.Proofs.Ytpdenloeacaadaa.E
open Go
set_option linter.unusedSimpArgs false
set_option linter.unusedVariables false
set_option linter.unusedSectionVars false
set_option maxRecDepth 20000
set_option maxHeartbeats 1000000
def hasB (l : List ByteArray) (x : ByteArray) : Bool := l.any fun y => decide (y = x)
theorem hasB_iff {l : List ByteArray} {x : ByteArray} : hasB l x = true ↔ x ∈ l := by
 unfold hasB
 rw [List.any_eq_true]
 constructor
 ·rintro ⟨y, hy, e⟩; rw [← of_decide_eq_true e]; exact hy
 ·intro h; exact ⟨x, h, by simp⟩
/-- Each name once, in the order in which they come first. -/
def dist (l : List Vn) : List ByteArray := l.foldl (fun out v => if hasB out v.r.id then out else out ++ [v.r.id]) []
theorem dist_add (l : List Vn) (v : Vn) : dist (l ++ [v]) = if hasB (dist l) v.r.id then dist l else dist l ++ [v.r.id] := by
 unfold dist
 rw [List.foldl_append]
 rfl
def idsF (l m : List Vn) : List ByteArray := (dist m).filter fun id => (getN l id).isSome
def idsL (l : List Vn) : List ByteArray := sortL (idsF l l)
theorem dist_len (l : List Vn) : (dist l).length ≤ l.length := by
 have key : ∀ n, (dist (l.take n)).length ≤ n := by
  intro n
  induction n with
  | zero => simp [dist]
  | succ n ih =>
   by_cases h : n < l.length
   ·obtain ⟨v, hv⟩ := lt_get (l := l) (i := n) h
    rw [take_get hv, dist_add]
    split
    ·omega
    ·simp; omega
   ·have e : l.take (n + 1) = l.take n := by rw [List.take_of_length_le (by omega), List.take_of_length_le (by omega)]
    rw [e]; omega
 have := key l.length
 rwa [List.take_of_length_le (Nat.le_refl _)] at this
theorem idsF_nil (l : List Vn) : idsF l [] = [] := rfl
theorem Ids_ok (l : List Vn) : Ok Try.prog 39 [vers l] (.tup [strs (if chkSt l = 0 then idsL l else []), I (chkSt l)]) := by
 refine Ok.of_wp (rs := [.tmp 2, .tmp 3]) (n := 48) Try.func39 rfl rfl rfl (by simp) fo (by kernel_rfl) ?_
 simp (decide := true) (maxSteps := 4000000) -implicitDefEqProofs only [S0, ↓reduceIte, Int.reduceAdd, Int.reduceSub, Int.reduceToNat, Int.reduceNeg, Nat.reduceAdd, Nat.reduceMul, Nat.reduceSub, reduceCtorEq]
 refine call_eq (stCheck_ok l) ?_
 by_cases h1 : chkSt l = 0
 ·obtain ⟨hlen, hrec⟩ := chkSt_len h1
  have ge := getE_eq h1
  simp (decide := true) (maxSteps := 4000000) -implicitDefEqProofs only [S0, ↓reduceIte, Int.reduceAdd, Int.reduceSub, Int.reduceToNat, Int.reduceNeg, Nat.reduceAdd, Nat.reduceMul, Nat.reduceSub, reduceCtorEq, h1]
  refine ALoop.st [0, 5, 6, 18, 19, 20] (fun (s : Nat × List (Value × Value)) => [vers l, .own (.l 43) 0 1 0 (idsF l (l.take s.1)).length, .map (.l 17) 1, vers l, I l.length, I s.1]) (fun s => [(.l 17, 1, .map .s s.2), (.l 43, 0, .row 9 1 none ((idsF l (l.take s.1)).map fun x => [S x]))])
   (fun s => s.1 ≤ l.length ∧ ∀ c : ByteArray, (mget s.2 (.string c)).getD (.bool false) = .bool (hasB (dist (l.take s.1)) c)) (fun s => l.length - s.1) [.l 43] (0, []) (by simp (decide := true) (maxSteps := 4000000) -implicitDefEqProofs only [S0, ↓reduceIte, Int.reduceAdd, Int.reduceSub, Int.reduceToNat, Int.reduceNeg, Nat.reduceAdd, Nat.reduceMul, Nat.reduceSub, reduceCtorEq, List.take_zero, idsF_nil, List.length_nil, List.map_nil]) (by simp (decide := true) (maxSteps := 4000000) -implicitDefEqProofs only [S0, ↓reduceIte, Int.reduceAdd, Int.reduceSub, Int.reduceToNat, Int.reduceNeg, Nat.reduceAdd, Nat.reduceMul, Nat.reduceSub, reduceCtorEq, List.take_zero, idsF_nil, List.length_nil, List.map_nil]) ⟨by simp, fun c => rfl⟩ ?_
  rintro ⟨i, es⟩ ⟨hi, hm⟩
  simp only at hi hm
  by_cases h : (i : Int) < l.length
  ·obtain ⟨v, hv⟩ := get_lt h
   have hw := wr_add1 h (by omega)
   have hm1 := hm v.r.id
   have ad := dist_add (l.take i) v
   rw [← take_get hv] at ad
   have hln := dist_len (l.take i)
   rw [List.length_take] at hln
   have hfl : (idsF l (l.take i)).length ≤ (dist (l.take i)).length := List.length_filter_le _ _
   by_cases hs : hasB (dist (l.take i)) v.r.id = true
   ·rw [if_pos hs] at ad
    rw [hs] at hm1
    have nx : idsF l (l.take (i + 1)) = idsF l (l.take i) := by unfold idsF; rw [ad]
    simp (decide := true) (maxSteps := 4000000) -implicitDefEqProofs only [S0, ↓reduceIte, Int.reduceAdd, Int.reduceSub, Int.reduceToNat, Int.reduceNeg, Nat.reduceAdd, Nat.reduceMul, Nat.reduceSub, reduceCtorEq, h, hv, hm1]
    exact Nxt.mk [] (i + 1, es) (by simp (decide := true) (maxSteps := 4000000) -implicitDefEqProofs only [S0, ↓reduceIte, Int.reduceAdd, Int.reduceSub, Int.reduceToNat, Int.reduceNeg, Nat.reduceAdd, Nat.reduceMul, Nat.reduceSub, reduceCtorEq, hw, nx]) (by simp (decide := true) (maxSteps := 4000000) -implicitDefEqProofs only [S0, ↓reduceIte, Int.reduceAdd, Int.reduceSub, Int.reduceToNat, Int.reduceNeg, Nat.reduceAdd, Nat.reduceMul, Nat.reduceSub, reduceCtorEq, nx]) ⟨by simp only; omega, by rw [ad]; exact hm⟩ (by simp only; omega)
   ·rw [if_neg hs] at ad
    rw [Bool.eq_false_iff.2 hs] at hm1
    have hput : ∀ c, (mget (mput es (.string v.r.id) (.bool true)) (.string c)).getD (.bool false) = .bool (hasB (dist (l.take (i + 1))) c) := by
     intro c
     rw [mget_put_s, ad]
     by_cases h2 : v.r.id = c
     ·simp [h2, hasB]
     ·rw [if_neg h2, hm]
      simp [h2, hasB]
    have nx : idsF l (l.take (i + 1)) = idsF l (l.take i) ++ [v.r.id].filter fun id => (getN l id).isSome := by unfold idsF; rw [ad, List.filter_append]
    simp (decide := true) (maxSteps := 4000000) -implicitDefEqProofs only [S0, ↓reduceIte, Int.reduceAdd, Int.reduceSub, Int.reduceToNat, Int.reduceNeg, Nat.reduceAdd, Nat.reduceMul, Nat.reduceSub, reduceCtorEq, h, hv, hm1]
    refine call_eq (Get_ok l v.r.id) ?_
    rw [ge, if_pos h1]
    generalize (getN l v.r.id).getD noRec = P
    cases hg : (getN l v.r.id).isSome with
    | true =>
     rw [show [v.r.id].filter (fun id => (getN l id).isSome) = [v.r.id] by simp [hg]] at nx
     have tkF : List.take (idsF l (l.take i)).length ((idsF l (l.take i)).map fun x => [S x]) = (idsF l (l.take i)).map fun x => [S x] := List.take_of_length_le (by simp)
     simp (decide := true) (maxSteps := 4000000) -implicitDefEqProofs only [S0, ↓reduceIte, Int.reduceAdd, Int.reduceSub, Int.reduceToNat, Int.reduceNeg, Nat.reduceAdd, Nat.reduceMul, Nat.reduceSub, reduceCtorEq, tkF]
     refine ⟨by omega, ?_⟩
     exact Nxt.mk [] (i + 1, _) (by rw [nx, List.length_append, List.length_singleton]; simp (decide := true) (maxSteps := 4000000) -implicitDefEqProofs only [S0, ↓reduceIte, Int.reduceAdd, Int.reduceSub, Int.reduceToNat, Int.reduceNeg, Nat.reduceAdd, Nat.reduceMul, Nat.reduceSub, reduceCtorEq, hw]) (by rw [nx, List.map_append]; simp (decide := true) (maxSteps := 4000000) -implicitDefEqProofs only [S0, ↓reduceIte, Int.reduceAdd, Int.reduceSub, Int.reduceToNat, Int.reduceNeg, Nat.reduceAdd, Nat.reduceMul, Nat.reduceSub, reduceCtorEq, List.map_cons, List.map_nil]; try rfl) ⟨by simp only; omega, hput⟩ (by simp only; omega)
    | false =>
     rw [show [v.r.id].filter (fun id => (getN l id).isSome) = [] by simp [hg], List.append_nil] at nx
     simp (decide := true) (maxSteps := 4000000) -implicitDefEqProofs only [S0, ↓reduceIte, Int.reduceAdd, Int.reduceSub, Int.reduceToNat, Int.reduceNeg, Nat.reduceAdd, Nat.reduceMul, Nat.reduceSub, reduceCtorEq]
     exact Nxt.mk [] (i + 1, _) (by simp (decide := true) (maxSteps := 4000000) -implicitDefEqProofs only [S0, ↓reduceIte, Int.reduceAdd, Int.reduceSub, Int.reduceToNat, Int.reduceNeg, Nat.reduceAdd, Nat.reduceMul, Nat.reduceSub, reduceCtorEq, hw, nx]) (by simp (decide := true) (maxSteps := 4000000) -implicitDefEqProofs only [S0, ↓reduceIte, Int.reduceAdd, Int.reduceSub, Int.reduceToNat, Int.reduceNeg, Nat.reduceAdd, Nat.reduceMul, Nat.reduceSub, reduceCtorEq, nx]) ⟨by simp only; omega, hput⟩ (by simp only; omega)
  ·obtain rfl : i = l.length := by omega
   have hln := dist_len l
   have hfl : (idsF l l).length ≤ (dist l).length := List.length_filter_le _ _
   rw [List.take_of_length_le (Nat.le_refl _)]
   simp (decide := true) (maxSteps := 4000000) -implicitDefEqProofs only [S0, ↓reduceIte, Int.reduceAdd, Int.reduceSub, Int.reduceToNat, Int.reduceNeg, Nat.reduceAdd, Nat.reduceMul, Nat.reduceSub, reduceCtorEq, h]
   refine callH (sortS_ok (idsF l l) (by omega)) [.l 43] ?_
   have ln := sortL_len (idsF l l)
   have tkS : List.take (idsF l l).length ((sortL (idsF l l)).map fun s => [S s]) = (sortL (idsF l l)).map fun s => [S s] := List.take_of_length_le (by simp [ln])
   simp (decide := true) (maxSteps := 4000000) -implicitDefEqProofs only [S0, ↓reduceIte, Int.reduceAdd, Int.reduceSub, Int.reduceToNat, Int.reduceNeg, Nat.reduceAdd, Nat.reduceMul, Nat.reduceSub, reduceCtorEq, ln, tkS, Nat.le_refl]
   rfl
 ·simp (decide := true) (maxSteps := 4000000) -implicitDefEqProofs only [S0, ↓reduceIte, Int.reduceAdd, Int.reduceSub, Int.reduceToNat, Int.reduceNeg, Nat.reduceAdd, Nat.reduceMul, Nat.reduceSub, reduceCtorEq, h1]
end Go.Proofs.Ytpdenloeacaadaa.E

namespace Go.Proofs.Ytpdenloeacaadaa.E
open Go
set_option linter.unusedSimpArgs false
set_option linter.unusedVariables false
set_option linter.unusedSectionVars false
set_option maxRecDepth 20000
set_option maxHeartbeats 1000000
def idxB (x : ByteArray) : Nat → List ByteArray → Int
 | _, [] => -1
 | i, y :: l => if decide (x = y) then i else idxB x (i + 1) l
theorem idxB_iff (x : ByteArray) (i : Nat) (l : List ByteArray) : 0 ≤ idxB x i l ↔ hasB l x = true := by
 induction l generalizing i with
 | nil => simp [idxB, hasB]
 | cons y l ih =>
  rw [idxB]
  by_cases h : x = y
  ·rw [decide_eq_true h, if_pos rfl]
   simp [hasB, h]
  ·rw [decide_eq_false h, if_neg (by simp), ih]
   have h' : ¬ y = x := fun e => h e.symm
   simp [hasB, h']
theorem Ids_okS {l : List Vn} (h : chkSt l = 0) : Ok Try.prog 39 [vers l] (.tup [strs (idsL l), I 0]) := by
 have := Ids_ok l
 rwa [h, if_pos rfl] at this
theorem Get_okS {l : List Vn} (h : chkSt l = 0) (id : ByteArray) : Ok Try.prog 42 [vers l, S id] (.tup [recV ((getN l id).getD noRec), I (if (getN l id).isSome then 0 else 4)]) := by
 have := Get_ok l id
 rwa [if_pos h, getE_eq h] at this
/-! Names. -/
theorem sortL_perm (l : List ByteArray) : (sortL l).Perm l := by
 unfold sortL
 have h := (List.mergeSort_perm (l.map fun s => s.data.toList) (fun x y => decide (x ≤ y))).map fun b : List UInt8 => (⟨b.toArray⟩ : ByteArray)
 rw [List.map_map] at h
 have e : l.map ((fun b : List UInt8 => (⟨b.toArray⟩ : ByteArray)) ∘ fun s => s.data.toList) = l := by
  conv => rhs; rw [← List.map_id l]
  rfl
 rwa [e] at h
theorem dist_mem {l : List Vn} {x : ByteArray} : x ∈ dist l ↔ ∃ v ∈ l, v.r.id = x := by
 induction l using snoc_ind with
 | h0 => simp [dist]
 | h1 l v ih =>
  rw [dist_add]
  by_cases h : hasB (dist l) v.r.id = true
  ·rw [if_pos h, ih]
   constructor
   ·rintro ⟨w, hw, e⟩; exact ⟨w, by simp [hw], e⟩
   ·rintro ⟨w, hw, e⟩
    rcases List.mem_append.1 hw with hw | hw
    ·exact ⟨w, hw, e⟩
    ·rw [List.mem_singleton.1 hw] at e
     subst e
     exact ih.1 (hasB_iff.1 h)
  ·rw [if_neg h, List.mem_append, ih, List.mem_singleton]
   constructor
   ·rintro (⟨w, hw, e⟩ | e)
    ·exact ⟨w, by simp [hw], e⟩
    ·exact ⟨v, by simp, e.symm⟩
   ·rintro ⟨w, hw, e⟩
    rcases List.mem_append.1 hw with hw | hw
    ·exact .inl ⟨w, hw, e⟩
    ·rw [List.mem_singleton.1 hw] at e; exact .inr e.symm
theorem ids_mem {l : List Vn} {x : ByteArray} : x ∈ idsL l ↔ (getN l x).isSome = true := by
 unfold idsL
 rw [(sortL_perm _).mem_iff]
 unfold idsF
 rw [List.mem_filter, dist_mem]
 refine ⟨fun h => h.2, fun h => ⟨?_, h⟩⟩
 obtain ⟨r, hr⟩ := Option.isSome_iff_exists.1 h
 obtain ⟨e, v, hv, e2⟩ := getN_some hr
 exact ⟨v, hv, by rw [e2]; exact e⟩
theorem ids_len (l : List Vn) : (idsL l).length ≤ l.length := by
 unfold idsL
 rw [sortL_len]
 exact Nat.le_trans (List.length_filter_le _ _) (dist_len l)
/-- What a part tells of a name. -/
theorem getRev_part (a : Int) (id : ByteArray) : ∀ (l : List Vn) (g g' : Int → Bool), (∀ c, bnot c a = 0 → g c = g' c) → ((getRev id (partL a l) g').isSome = true → (getRev id l g).isSome = true) ∧ (∀ r, getRev id l g = some r → bnot r.cats a = 0 → getRev id (partL a l) g' = some r) := by
 intro l
 induction l with
 | nil => intro g g' _; exact ⟨fun h => h, fun r h => by cases h⟩
 | cons v l ih =>
  intro g g' hg
  cases e : hid a v with
  | true =>
   have hc : bnot v.r.cats a ≠ 0 := by unfold hid at e; simpa using e
   have e2 : partL a (v :: l) = partL a l := by unfold partL; rw [List.filter_cons, e]; rfl
   rw [e2, getRev_cons]
   have hg2 : ∀ c, bnot c a = 0 → (decide (v.r.cats = c) || g c) = g' c := fun c h => by
    have : ¬ v.r.cats = c := fun e => hc (e ▸ h)
    rw [decide_eq_false this, Bool.false_or]; exact hg c h
   by_cases h1 : v.r.id = id
   ·rw [if_pos h1]
    by_cases h2 : v.gone = false ∧ g v.r.cats = false
    ·rw [if_pos h2]
     exact ⟨fun _ => rfl, fun r h hr => by cases h; exact absurd hr hc⟩
    ·rw [if_neg h2]; exact ih _ _ hg2
   ·rw [if_neg h1]; exact ih _ _ hg
  | false =>
   have hc : bnot v.r.cats a = 0 := by unfold hid at e; simpa using e
   have e2 : partL a (v :: l) = v :: partL a l := by unfold partL; rw [List.filter_cons, e]; rfl
   rw [e2, getRev_cons, getRev_cons, ← hg _ hc]
   by_cases h1 : v.r.id = id
   ·rw [if_pos h1, if_pos h1]
    by_cases h2 : v.gone = false ∧ g v.r.cats = false
    ·rw [if_pos h2, if_pos h2]; exact ⟨fun h => h, fun r h _ => h⟩
    ·rw [if_neg h2, if_neg h2]; exact ih _ _ fun c h => by rw [hg c h]
   ·rw [if_neg h1, if_neg h1]; exact ih _ _ hg
theorem getN_part {a : Int} {id : ByteArray} {l : List Vn} : ((getN (partL a l) id).isSome = true → (getN l id).isSome = true) ∧ (∀ r, getN l id = some r → bnot r.cats a = 0 → getN (partL a l) id = some r) := by
 have h := getRev_part a id l.reverse (fun _ => false) (fun _ => false) (fun _ _ => rfl)
 have e : partL a l.reverse = (partL a l).reverse := List.filter_reverse ..
 rw [e] at h
 exact h
end Go.Proofs.Ytpdenloeacaadaa.E

namespace Go.Proofs.Ytpdenloeacaadaa.E
open Go
set_option linter.unusedSimpArgs false
set_option linter.unusedVariables false
set_option linter.unusedSectionVars false
set_option maxRecDepth 20000
set_option maxHeartbeats 1000000
theorem lessS_ok (a b : ByteArray) : Ok Try.prog 64 [S a, S b] (B (sLt a b)) := by
 have nan : ∀ x : ByteArray, Ok Try.prog 74 [S x] (B false) := by
  intro x
  refine Ok.of_wp (rs := [.tmp 2]) (n := 6) Try.func74 rfl rfl rfl (by simp) fo (by kernel_rfl) ?_
  have h : decide (x = x) = true := decide_eq_true rfl
  simp (decide := true) (maxSteps := 4000000) -implicitDefEqProofs only [S0, ↓reduceIte, Int.reduceAdd, Int.reduceSub, Int.reduceToNat, Int.reduceNeg, Nat.reduceAdd, Nat.reduceMul, Nat.reduceSub, reduceCtorEq, toList_beq, h]
 refine Ok.of_wp (rs := [.tmp 4]) (n := 17) Try.func64 rfl rfl rfl (by simp) fo (by kernel_rfl) ?_
 simp (decide := true) (maxSteps := 4000000) -implicitDefEqProofs only [S0, ↓reduceIte, Int.reduceAdd, Int.reduceSub, Int.reduceToNat, Int.reduceNeg, Nat.reduceAdd, Nat.reduceMul, Nat.reduceSub, reduceCtorEq]
 refine call_eq (nan a) ?_
 simp (decide := true) (maxSteps := 4000000) -implicitDefEqProofs only [S0, ↓reduceIte, Int.reduceAdd, Int.reduceSub, Int.reduceToNat, Int.reduceNeg, Nat.reduceAdd, Nat.reduceMul, Nat.reduceSub, reduceCtorEq, bl_eq]
def SortedB (l : List ByteArray) : Prop := ∀ (i : Nat) (x y : ByteArray), l[i]? = some x → l[i + 1]? = some y → sLt y x = false
theorem le_tot (a b : List UInt8) : (decide (a ≤ b) || decide (b ≤ a)) = true := by
 simp only [Bool.or_eq_true, decide_eq_true_eq]
 exact List.le_total a b
theorem sortL_sorted (l : List ByteArray) : SortedB (sortL l) := by
 have h := List.pairwise_mergeSort (le := fun x y : List UInt8 => decide (x ≤ y)) (fun a b c h k => decide_eq_true (List.le_trans (of_decide_eq_true h) (of_decide_eq_true k))) (fun a b => le_tot a b) (l.map fun s => s.data.toList)
 intro i x y hx hy
 unfold sortL at hx hy
 rw [List.getElem?_map] at hx hy
 generalize (l.map fun s => s.data.toList).mergeSort (fun x y => decide (x ≤ y)) = M at *
 obtain ⟨a, ha, rfl⟩ := Option.map_eq_some_iff.1 hx
 obtain ⟨b, hb, rfl⟩ := Option.map_eq_some_iff.1 hy
 obtain ⟨ha1, ha2⟩ := List.getElem?_eq_some_iff.1 ha
 obtain ⟨hb1, hb2⟩ := List.getElem?_eq_some_iff.1 hb
 have := List.pairwise_iff_getElem.1 h i (i + 1) ha1 hb1 (by omega)
 rw [ha2, hb2] at this
 have hle := of_decide_eq_true this
 rw [Bool.eq_false_iff]
 intro hlt
 rw [sLt_iff] at hlt
 exact hle hlt
end Go.Proofs.Ytpdenloeacaadaa.E

namespace Go.Proofs.Ytpdenloeacaadaa.E
open Go
set_option linter.unusedSimpArgs false
set_option linter.unusedVariables false
set_option linter.unusedSectionVars false
set_option maxRecDepth 20000
def idxF {α : Type} [DecidableEq α] (x : α) : Nat → List α → Int
 | _, [] => -1
 | i, y :: l => if y = x then i else idxF x (i + 1) l
theorem idxF_iff {α : Type} [DecidableEq α] (x : α) (i : Nat) (l : List α) : 0 ≤ idxF x i l ↔ x ∈ l := by
 induction l generalizing i with
 | nil => simp [idxF]
 | cons y l ih =>
  simp only [idxF, List.mem_cons]
  by_cases h : y = x
  ·rw [if_pos h]
   exact ⟨fun _ => .inl h.symm, fun _ => by omega⟩
  ·rw [if_neg h, ih]
   exact ⟨.inr, fun h' => h'.elim (fun e => absurd e.symm h) id⟩
theorem fd_eq (f g : Fd) : (decide (f.key = g.key) && decide (f.val = g.val)) = decide (f = g) := by
 cases f; cases g
 rw [Bool.eq_iff_iff]; simp
theorem idxFds_ok (l : List Fd) (f : Fd) (hl : l.length ≤ 1000000000000) : Ok Try.prog 60 [fds l, fdV f] (I (idxF f 0 l)) := by
 refine Ok.of_wp (rs := [.tmp 4]) (n := 19) Try.func60 rfl rfl rfl (by simp) fo (by kernel_rfl) ?_
 simp (decide := true) (maxSteps := 4000000) -implicitDefEqProofs only [S0, ↓reduceIte, Int.reduceAdd, Int.reduceSub, Int.reduceToNat, Int.reduceNeg, Nat.reduceAdd, Nat.reduceMul, Nat.reduceSub, reduceCtorEq]
 refine ALoop.st [0, 3, 7, 8] (fun (i : Nat) => [fds l, .ptr (.l 3) 1 0, I l.length, I i]) (fun _ => [(.l 3, 1, .cells 37 [S f.key, S f.val])]) (fun i => i ≤ l.length ∧ idxF f i (l.drop i) = idxF f 0 l) (fun i => l.length - i) [] 0 (by simp (decide := true) (maxSteps := 4000000) -implicitDefEqProofs only [S0, ↓reduceIte, Int.reduceAdd, Int.reduceSub, Int.reduceToNat, Int.reduceNeg, Nat.reduceAdd, Nat.reduceMul, Nat.reduceSub, reduceCtorEq]; try rfl) (by simp (decide := true) (maxSteps := 4000000) -implicitDefEqProofs only [S0, ↓reduceIte, Int.reduceAdd, Int.reduceSub, Int.reduceToNat, Int.reduceNeg, Nat.reduceAdd, Nat.reduceMul, Nat.reduceSub, reduceCtorEq]) ⟨by omega, rfl⟩ ?_
 rintro i ⟨hi, hu⟩
 simp (decide := true) (maxSteps := 4000000) -implicitDefEqProofs only [S0, ↓reduceIte, Int.reduceAdd, Int.reduceSub, Int.reduceToNat, Int.reduceNeg, Nat.reduceAdd, Nat.reduceMul, Nat.reduceSub, reduceCtorEq]
 split
 ·rename_i h
  obtain ⟨g, hg⟩ := get_lt h
  rw [get_drop hg, idxF] at hu
  have hw := wr_add1 h (by omega)
  by_cases he : g = f
  ·have he' : (decide (f.key = g.key) && decide (f.val = g.val)) = true := by rw [fd_eq]; exact decide_eq_true he.symm
   rw [if_pos he] at hu
   simp (decide := true) (maxSteps := 4000000) -implicitDefEqProofs only [S0, ↓reduceIte, Int.reduceAdd, Int.reduceSub, Int.reduceToNat, Int.reduceNeg, Nat.reduceAdd, Nat.reduceMul, Nat.reduceSub, reduceCtorEq, hg, toList_beq, he']
   rw [← hu]
  ·have he' : (decide (f.key = g.key) && decide (f.val = g.val)) = false := by rw [fd_eq]; exact decide_eq_false fun e => he e.symm
   rw [if_neg he] at hu
   simp (decide := true) (maxSteps := 4000000) -implicitDefEqProofs only [S0, ↓reduceIte, Int.reduceAdd, Int.reduceSub, Int.reduceToNat, Int.reduceNeg, Nat.reduceAdd, Nat.reduceMul, Nat.reduceSub, reduceCtorEq, hg, toList_beq, he']
   exact Nxt.mk [] (i + 1) (by simp (decide := true) (maxSteps := 4000000) -implicitDefEqProofs only [S0, ↓reduceIte, Int.reduceAdd, Int.reduceSub, Int.reduceToNat, Int.reduceNeg, Nat.reduceAdd, Nat.reduceMul, Nat.reduceSub, reduceCtorEq, hw]) (by simp (decide := true) (maxSteps := 4000000) -implicitDefEqProofs only [S0, ↓reduceIte, Int.reduceAdd, Int.reduceSub, Int.reduceToNat, Int.reduceNeg, Nat.reduceAdd, Nat.reduceMul, Nat.reduceSub, reduceCtorEq]) ⟨by omega, hu⟩ (by omega)
 ·rename_i h
  rw [drop_all h, idxF] at hu
  rw [← hu]
theorem hasFds_ok (l : List Fd) (f : Fd) (hl : l.length ≤ 1000000000000) : Ok Try.prog 43 [fds l, fdV f] (B (decide (f ∈ l))) := by
 refine Ok.of_wp (rs := [.tmp 4]) (n := 9) Try.func43 rfl rfl rfl (by simp) fo (by kernel_rfl) ?_
 simp (decide := true) (maxSteps := 4000000) -implicitDefEqProofs only [S0, ↓reduceIte, Int.reduceAdd, Int.reduceSub, Int.reduceToNat, Int.reduceNeg, Nat.reduceAdd, Nat.reduceMul, Nat.reduceSub, reduceCtorEq]
 refine call_eq (idxFds_ok l f hl) ?_
 simp (decide := true) (maxSteps := 4000000) -implicitDefEqProofs only [S0, ↓reduceIte, Int.reduceAdd, Int.reduceSub, Int.reduceToNat, Int.reduceNeg, Nat.reduceAdd, Nat.reduceMul, Nat.reduceSub, reduceCtorEq]
 refine B_eq ?_
 rw [Bool.eq_iff_iff, decide_eq_true_eq, decide_eq_true_eq, ← idxF_iff f 0]
end Go.Proofs.Ytpdenloeacaadaa.E

namespace Go.Proofs.Ytpdenloeacaadaa.E
open Go
set_option linter.unusedSimpArgs false
set_option linter.unusedVariables false
set_option linter.unusedSectionVars false
set_option maxRecDepth 20000
set_option maxHeartbeats 1000000
def byOk (f : Fd) : Bool := idOk f.key && valOk f.val
def hasF (l : List Vn) (f : Fd) (id : ByteArray) : Bool := decide (f ∈ ((getN l id).getD noRec).fields)
def byL (l : List Vn) (f : Fd) : List ByteArray := (idsL l).filter (hasF l f)
theorem By_okS {l : List Vn} (h : chkSt l = 0) (f : Fd) : Ok Try.prog 13 [vers l, fdV f] (.tup [strs (if byOk f then byL l f else []), I (if byOk f then 0 else 3)]) := by
 refine Ok.of_wp (rs := [.tmp 4, .tmp 5]) (n := 53) Try.func13 rfl rfl rfl (by simp) fo (by kernel_rfl) ?_
 have lx := ids_len l
 have hl := (chkSt_len h).1
 simp (decide := true) (maxSteps := 4000000) -implicitDefEqProofs only [S0, ↓reduceIte, Int.reduceAdd, Int.reduceSub, Int.reduceToNat, Int.reduceNeg, Nat.reduceAdd, Nat.reduceMul, Nat.reduceSub, reduceCtorEq]
 refine call_eq (Ids_okS h) ?_
 simp (decide := true) (maxSteps := 4000000) -implicitDefEqProofs only [S0, ↓reduceIte, Int.reduceAdd, Int.reduceSub, Int.reduceToNat, Int.reduceNeg, Nat.reduceAdd, Nat.reduceMul, Nat.reduceSub, reduceCtorEq]
 refine call_eq (Id_ok f.key) ?_
 cases h1 : idOk f.key with
 | false =>
  have e0 : byOk f = false := by rw [byOk, h1]; rfl
  simp (decide := true) (maxSteps := 4000000) -implicitDefEqProofs only [S0, ↓reduceIte, Int.reduceAdd, Int.reduceSub, Int.reduceToNat, Int.reduceNeg, Nat.reduceAdd, Nat.reduceMul, Nat.reduceSub, reduceCtorEq, h1, e0]
  try rfl
 | true =>
  simp (decide := true) (maxSteps := 4000000) -implicitDefEqProofs only [S0, ↓reduceIte, Int.reduceAdd, Int.reduceSub, Int.reduceToNat, Int.reduceNeg, Nat.reduceAdd, Nat.reduceMul, Nat.reduceSub, reduceCtorEq]
  refine call_eq (Value_ok f.val) ?_
  cases h2 : valOk f.val with
  | false =>
   have e0 : byOk f = false := by rw [byOk, h1, h2]; rfl
   simp (decide := true) (maxSteps := 4000000) -implicitDefEqProofs only [S0, ↓reduceIte, Int.reduceAdd, Int.reduceSub, Int.reduceToNat, Int.reduceNeg, Nat.reduceAdd, Nat.reduceMul, Nat.reduceSub, reduceCtorEq, h1, e0]
   try rfl
  | true =>
   have e0 : byOk f = true := by rw [byOk, h1, h2]; rfl
   rw [e0, if_pos rfl, if_pos rfl]
   have hb : byL l f = (idsL l).filter (hasF l f) := rfl
   rw [hb]
   have hgl := fun id => getD_lens h id
   generalize idsL l = X at *
   simp (decide := true) (maxSteps := 4000000) -implicitDefEqProofs only [S0, ↓reduceIte, Int.reduceAdd, Int.reduceSub, Int.reduceToNat, Int.reduceNeg, Nat.reduceAdd, Nat.reduceMul, Nat.reduceSub, reduceCtorEq]
   refine ALoop.st [0, 3, 8, 31, 32, 33] (fun (i : Nat) => [vers l, .ptr (.l 3) 1 0, .own (.l 50) 0 1 0 ((X.take i).filter (hasF l f)).length, strs X, I X.length, I i]) (fun i => [(.l 3, 1, .cells 37 [S f.key, S f.val]), (.l 50, 0, .row 9 1 none (((X.take i).filter (hasF l f)).map fun x => [S x]))]) (fun i => i ≤ X.length) (fun i => X.length - i) [.l 50] 0 (by simp (decide := true) (maxSteps := 4000000) -implicitDefEqProofs only [S0, ↓reduceIte, Int.reduceAdd, Int.reduceSub, Int.reduceToNat, Int.reduceNeg, Nat.reduceAdd, Nat.reduceMul, Nat.reduceSub, reduceCtorEq, List.take_zero, List.filter_nil, List.length_nil, List.map_nil]) (by simp (decide := true) (maxSteps := 4000000) -implicitDefEqProofs only [S0, ↓reduceIte, Int.reduceAdd, Int.reduceSub, Int.reduceToNat, Int.reduceNeg, Nat.reduceAdd, Nat.reduceMul, Nat.reduceSub, reduceCtorEq, List.take_zero, List.filter_nil, List.length_nil, List.map_nil]) (by simp) ?_
   intro i hi
   by_cases hlt : (i : Int) < X.length
   ·obtain ⟨x, hx⟩ := get_lt hlt
    have hw := wr_add1 hlt (by omega)
    have nx : (X.take (i + 1)).filter (hasF l f) = (X.take i).filter (hasF l f) ++ [x].filter (hasF l f) := by rw [take_get hx, List.filter_append]
    have hfl : ((X.take i).filter (hasF l f)).length ≤ (X.take i).length := List.length_filter_le _ _
    rw [List.length_take] at hfl
    have hlr := hgl x
    generalize hF : (X.take i).filter (hasF l f) = F at *
    have tkF : List.take F.length (F.map fun x => [S x]) = F.map fun x => [S x] := List.take_of_length_le (by simp)
    simp (decide := true) (maxSteps := 4000000) -implicitDefEqProofs only [S0, ↓reduceIte, Int.reduceAdd, Int.reduceSub, Int.reduceToNat, Int.reduceNeg, Nat.reduceAdd, Nat.reduceMul, Nat.reduceSub, reduceCtorEq, hlt, hx]
    refine call_eq (Get_okS h x) ?_
    simp (decide := true) (maxSteps := 4000000) -implicitDefEqProofs only [S0, ↓reduceIte, Int.reduceAdd, Int.reduceSub, Int.reduceToNat, Int.reduceNeg, Nat.reduceAdd, Nat.reduceMul, Nat.reduceSub, reduceCtorEq]
    refine call_eq (hasFds_ok _ f (by omega)) ?_
    cases hh : hasF l f x with
    | true =>
     rw [show [x].filter (hasF l f) = [x] by simp [hh]] at nx
     unfold hasF at hh
     rw [hh]
     simp (decide := true) (maxSteps := 4000000) -implicitDefEqProofs only [S0, ↓reduceIte, Int.reduceAdd, Int.reduceSub, Int.reduceToNat, Int.reduceNeg, Nat.reduceAdd, Nat.reduceMul, Nat.reduceSub, reduceCtorEq, tkF]
     refine ⟨by omega, ?_⟩
     exact Nxt.mk [] (i + 1) (by rw [nx, List.length_append, List.length_singleton]; simp (decide := true) (maxSteps := 4000000) -implicitDefEqProofs only [S0, ↓reduceIte, Int.reduceAdd, Int.reduceSub, Int.reduceToNat, Int.reduceNeg, Nat.reduceAdd, Nat.reduceMul, Nat.reduceSub, reduceCtorEq, hw]) (by rw [nx, List.map_append]; simp (decide := true) (maxSteps := 4000000) -implicitDefEqProofs only [S0, ↓reduceIte, Int.reduceAdd, Int.reduceSub, Int.reduceToNat, Int.reduceNeg, Nat.reduceAdd, Nat.reduceMul, Nat.reduceSub, reduceCtorEq, List.map_cons, List.map_nil]; try rfl) (by omega) (by omega)
    | false =>
     rw [show [x].filter (hasF l f) = [] by simp [hh], List.append_nil] at nx
     unfold hasF at hh
     rw [hh]
     simp (decide := true) (maxSteps := 4000000) -implicitDefEqProofs only [S0, ↓reduceIte, Int.reduceAdd, Int.reduceSub, Int.reduceToNat, Int.reduceNeg, Nat.reduceAdd, Nat.reduceMul, Nat.reduceSub, reduceCtorEq]
     exact Nxt.mk [] (i + 1) (by simp (decide := true) (maxSteps := 4000000) -implicitDefEqProofs only [S0, ↓reduceIte, Int.reduceAdd, Int.reduceSub, Int.reduceToNat, Int.reduceNeg, Nat.reduceAdd, Nat.reduceMul, Nat.reduceSub, reduceCtorEq, hw, nx]) (by simp (decide := true) (maxSteps := 4000000) -implicitDefEqProofs only [S0, ↓reduceIte, Int.reduceAdd, Int.reduceSub, Int.reduceToNat, Int.reduceNeg, Nat.reduceAdd, Nat.reduceMul, Nat.reduceSub, reduceCtorEq, nx]) (by omega) (by omega)
   ·obtain rfl : i = X.length := by omega
    rw [List.take_of_length_le (Nat.le_refl _)]
    generalize X.filter (hasF l f) = F
    have tkF : List.take F.length (F.map fun x => [S x]) = F.map fun x => [S x] := List.take_of_length_le (by simp)
    simp (decide := true) (maxSteps := 4000000) -implicitDefEqProofs only [S0, ↓reduceIte, Int.reduceAdd, Int.reduceSub, Int.reduceToNat, Int.reduceNeg, Nat.reduceAdd, Nat.reduceMul, Nat.reduceSub, reduceCtorEq, hlt, tkF]
theorem sortL_pw (l : List ByteArray) : (sortL l).Pairwise fun x y => sLt y x = false := by
 have h := List.pairwise_mergeSort (le := fun x y : List UInt8 => decide (x ≤ y)) (fun a b c h k => decide_eq_true (List.le_trans (of_decide_eq_true h) (of_decide_eq_true k))) (fun a b => le_tot a b) (l.map fun s => s.data.toList)
 unfold sortL
 rw [List.pairwise_map]
 refine h.imp fun {a b} hab => ?_
 rw [Bool.eq_false_iff]
 intro hlt
 rw [sLt_iff] at hlt
 exact of_decide_eq_true hab hlt
theorem sorted_of_pw {l : List ByteArray} (h : l.Pairwise fun x y => sLt y x = false) : SortedB l := by
 intro i x y hx hy
 obtain ⟨ha1, ha2⟩ := List.getElem?_eq_some_iff.1 hx
 obtain ⟨hb1, hb2⟩ := List.getElem?_eq_some_iff.1 hy
 have := List.pairwise_iff_getElem.1 h i (i + 1) ha1 hb1 (by omega)
 rwa [ha2, hb2] at this
theorem byL_sorted (l : List Vn) (f : Fd) : SortedB (byL l f) := sorted_of_pw ((sortL_pw _).filter _)
theorem byL_mem {l : List Vn} {f : Fd} {id : ByteArray} : hasB (byL l f) id = ((getN l id).isSome && hasF l f id) := by
 rw [Bool.eq_iff_iff, hasB_iff, Bool.and_eq_true]
 unfold byL
 rw [List.mem_filter, ids_mem]
theorem byL_len (l : List Vn) (f : Fd) : (byL l f).length ≤ l.length := Nat.le_trans (List.length_filter_le _ _) (ids_len l)
theorem sortL_one (x : ByteArray) : sortL [x] = [x] := by
 unfold sortL
 simp
end Go.Proofs.Ytpdenloeacaadaa.E

namespace Go.Proofs.Ytpdenloeacaadaa.E
open Go
set_option linter.unusedSimpArgs false
set_option linter.unusedVariables false
set_option linter.unusedSectionVars false
set_option maxRecDepth 20000
set_option maxHeartbeats 1000000
/-- This version is of another name. -/
def hidI (a : ByteArray) (v : Vn) : Bool := !decide (v.r.id = a)
def histL (a : ByteArray) (l : List Vn) : List Vn := l.filter fun v => !hidI a v
def idxI (a : ByteArray) : Nat → List Vn → Int
 | _, [] => -1
 | i, v :: l => if hidI a v then i else idxI a (i + 1) l
theorem hist1_ok (v : Vn) (a : ByteArray) : OkH Try.prog 55 [verA v, .ptr (.e 0) 0 0] [.cells 9 [S a]] (B (hidI a v)) [(0, .cells 9 [S a])] := by
 refine OkH.of_wp (rs := [.tmp 3]) (n := 9) [] Try.func55 rfl rfl rfl (by simp) fo (by kernel_rfl) ?_
 by_cases h : v.r.id = a
 ·have h' : decide (v.r.id = a) = true := decide_eq_true h
  simp (decide := true) (maxSteps := 4000000) -implicitDefEqProofs only [S0, ↓reduceIte, Int.reduceAdd, Int.reduceSub, Int.reduceToNat, Int.reduceNeg, Nat.reduceAdd, Nat.reduceMul, Nat.reduceSub, reduceCtorEq, toList_beq, h']
  simp [hidI, h]
 ·have h' : decide (v.r.id = a) = false := decide_eq_false h
  simp (decide := true) (maxSteps := 4000000) -implicitDefEqProofs only [S0, ↓reduceIte, Int.reduceAdd, Int.reduceSub, Int.reduceToNat, Int.reduceNeg, Nat.reduceAdd, Nat.reduceMul, Nat.reduceSub, reduceCtorEq, toList_beq, h']
  simp [hidI, h]
theorem idxIO_ok (l : List Vn) (hl : l.length ≤ 1000000) (a : ByteArray) : OkH Try.prog 58 [.own (.e 0) 0 5 0 l.length, .func 55 [.ptr (.e 1) 0 0]] [.row 90 5 none (l.map verC), .cells 9 [S a]] (I (idxI a 0 l)) [(0, .row 90 5 none (l.map verC)), (0, .cells 9 [S a])] := by
 refine OkH.of_wp (rs := [.tmp 4]) (n := 19) [] Try.func58 rfl rfl rfl (by simp) fo (by kernel_rfl) ?_
 simp (decide := true) (maxSteps := 4000000) -implicitDefEqProofs only [S0, ↓reduceIte, Int.reduceAdd, Int.reduceSub, Int.reduceToNat, Int.reduceNeg, Nat.reduceAdd, Nat.reduceMul, Nat.reduceSub, reduceCtorEq]
 refine ALoop.st [0, 1, 6, 7, 8] (fun (i : Nat) => [.own (.e 0) 0 5 0 l.length, .func 55 [.ptr (.e 1) 0 0], .own (.e 0) 0 5 0 l.length, I l.length, I i]) (fun _ => [(.e 0, 0, .row 90 5 none (l.map verC)), (.e 1, 0, .cells 9 [S a])]) (fun i => i ≤ l.length ∧ idxI a i (l.drop i) = idxI a 0 l) (fun i => l.length - i) [] 0 (by simp (decide := true) (maxSteps := 4000000) -implicitDefEqProofs only [S0, ↓reduceIte, Int.reduceAdd, Int.reduceSub, Int.reduceToNat, Int.reduceNeg, Nat.reduceAdd, Nat.reduceMul, Nat.reduceSub, reduceCtorEq]; try rfl) (by simp (decide := true) (maxSteps := 4000000) -implicitDefEqProofs only [S0, ↓reduceIte, Int.reduceAdd, Int.reduceSub, Int.reduceToNat, Int.reduceNeg, Nat.reduceAdd, Nat.reduceMul, Nat.reduceSub, reduceCtorEq]) ⟨by omega, rfl⟩ ?_
 rintro i ⟨hi, hu⟩
 by_cases h : (i : Int) < l.length
 ·obtain ⟨v, hv⟩ := lt_get (l := l) (i := i) (by omega)
  have hw := wr_add1 h (by omega)
  have hd : l.drop i = v :: l.drop (i + 1) := by
   obtain ⟨h', e⟩ := List.getElem?_eq_some_iff.1 hv
   rw [← e, List.drop_eq_getElem_cons]
  rw [hd, idxI] at hu
  simp (decide := true) (maxSteps := 4000000) -implicitDefEqProofs only [S0, ↓reduceIte, Int.reduceAdd, Int.reduceSub, Int.reduceToNat, Int.reduceNeg, Nat.reduceAdd, Nat.reduceMul, Nat.reduceSub, reduceCtorEq, h, hv]
  refine callH (hist1_ok v a) [.e 1] ?_
  cases e : hidI a v with
  | true =>
   rw [e, if_pos rfl] at hu
   simp (decide := true) (maxSteps := 4000000) -implicitDefEqProofs only [S0, ↓reduceIte, Int.reduceAdd, Int.reduceSub, Int.reduceToNat, Int.reduceNeg, Nat.reduceAdd, Nat.reduceMul, Nat.reduceSub, reduceCtorEq, hu]
  | false =>
   rw [e, if_neg (by simp)] at hu
   simp (decide := true) (maxSteps := 4000000) -implicitDefEqProofs only [S0, ↓reduceIte, Int.reduceAdd, Int.reduceSub, Int.reduceToNat, Int.reduceNeg, Nat.reduceAdd, Nat.reduceMul, Nat.reduceSub, reduceCtorEq]
   exact Nxt.mk [] (i + 1) (by simp (decide := true) (maxSteps := 4000000) -implicitDefEqProofs only [S0, ↓reduceIte, Int.reduceAdd, Int.reduceSub, Int.reduceToNat, Int.reduceNeg, Nat.reduceAdd, Nat.reduceMul, Nat.reduceSub, reduceCtorEq, hw]) (by simp (decide := true) (maxSteps := 4000000) -implicitDefEqProofs only [S0, ↓reduceIte, Int.reduceAdd, Int.reduceSub, Int.reduceToNat, Int.reduceNeg, Nat.reduceAdd, Nat.reduceMul, Nat.reduceSub, reduceCtorEq]) ⟨by omega, hu⟩ (by omega)
 ·rw [List.drop_eq_nil_of_le (by omega), idxI] at hu
  simp (decide := true) (maxSteps := 4000000) -implicitDefEqProofs only [S0, ↓reduceIte, Int.reduceAdd, Int.reduceSub, Int.reduceToNat, Int.reduceNeg, Nat.reduceAdd, Nat.reduceMul, Nat.reduceSub, reduceCtorEq, h, hu]
theorem idxI_none {a : ByteArray} {l : List Vn} : ∀ {n : Nat}, idxI a n l = -1 → histL a l = l := by
 induction l with
 | nil => intro n _; rfl
 | cons v l ih =>
  intro n h
  rw [idxI] at h
  cases e : hidI a v with
  | true => rw [e, if_pos rfl] at h; omega
  | false =>
   rw [e, if_neg (by simp)] at h
   have := ih h
   unfold histL at this ⊢
   rw [List.filter_cons, e, this]
   rfl
theorem idxI_some {a : ByteArray} {l : List Vn} : ∀ {n : Nat} {k : Int}, idxI a n l = k → k ≠ -1 → ∃ i v, k = ((n + i : Nat) : Int) ∧ l[i]? = some v ∧ hidI a v = true ∧ histL a (l.take i) = l.take i := by
 induction l with
 | nil => intro n k h hk; exact absurd h.symm hk
 | cons v l ih =>
  intro n k h hk
  rw [idxI] at h
  cases e : hidI a v with
  | true =>
   rw [e, if_pos rfl] at h
   exact ⟨0, v, h.symm, rfl, e, rfl⟩
  | false =>
   rw [e, if_neg (by simp)] at h
   obtain ⟨i, w, h1, h2, h3, h4⟩ := ih h hk
   refine ⟨i + 1, w, by omega, h2, h3, ?_⟩
   unfold histL at h4 ⊢
   rw [List.take_succ_cons, List.filter_cons, e, h4]
   rfl
theorem histL_len (a : ByteArray) (l : List Vn) : (histL a l).length ≤ l.length := List.length_filter_le _ _
theorem histL_snoc {a : ByteArray} {l : List Vn} {i : Nat} {v : Vn} (h : l[i]? = some v) : histL a (l.take (i + 1)) = if hidI a v then histL a (l.take i) else histL a (l.take i) ++ [v] := by
 rw [take_get h]
 unfold histL
 rw [List.filter_append]
 cases e : hidI a v with
 | true => simp [e]
 | false => simp [e]
theorem delI_ok (l : List Vn) (hl : l.length ≤ 1000000) (a : ByteArray) : OkH Try.prog 36 [.own (.e 0) 0 5 0 l.length, .func 55 [.ptr (.e 1) 0 0]] [.row 90 5 none (l.map verC), .cells 9 [S a]] (.own (.e 0) 0 5 0 (histL a l).length) [(0, .row 90 5 none ((histL a l).map verC ++ List.replicate (l.length - (histL a l).length) verZ)), (0, .cells 9 [S a])] := by
 refine OkH.of_wp (rs := [.tmp 4]) (n := 42) [] Try.func36 rfl rfl rfl (by simp) fo (by kernel_rfl) ?_
 simp (decide := true) (maxSteps := 4000000) -implicitDefEqProofs only [S0, ↓reduceIte, Int.reduceAdd, Int.reduceSub, Int.reduceToNat, Int.reduceNeg, Nat.reduceAdd, Nat.reduceMul, Nat.reduceSub, reduceCtorEq]
 refine callH (idxIO_ok l hl a) [.e 0, .e 1] ?_
 by_cases hk : idxI a 0 l = -1
 ·have e := idxI_none hk
  rw [e, hk]
  simp (decide := true) (maxSteps := 4000000) -implicitDefEqProofs only [S0, ↓reduceIte, Int.reduceAdd, Int.reduceSub, Int.reduceToNat, Int.reduceNeg, Nat.reduceAdd, Nat.reduceMul, Nat.reduceSub, reduceCtorEq, Nat.sub_self, List.replicate_zero, List.append_nil, Option.getD_some]
 ·obtain ⟨k, v, hk1, hv, hh, hp⟩ := idxI_some rfl hk
  rw [Nat.zero_add] at hk1
  have hkl : k < l.length := by
   obtain ⟨h', _⟩ := List.getElem?_eq_some_iff.1 hv
   exact h'
  have hw := wr_add1 (n := l.length) (i := k) (by omega) (by omega)
  rw [hk1] at hk ⊢
  simp (decide := true) (maxSteps := 4000000) -implicitDefEqProofs only [S0, ↓reduceIte, Int.reduceAdd, Int.reduceSub, Int.reduceToNat, Int.reduceNeg, Nat.reduceAdd, Nat.reduceMul, Nat.reduceSub, reduceCtorEq, hk, hw]
  refine ALoop.st [0, 1, 5, 6] (fun (j : Nat) => [.own (.e 0) 0 5 0 l.length, .func 55 [.ptr (.e 1) 0 0], I (histL a (l.take j)).length, I j]) (fun j => [(.e 0, 0, .row 90 5 none ((histL a (l.take j) ++ l.drop (histL a (l.take j)).length).map verC)), (.e 1, 0, .cells 9 [S a])]) (fun j => k < j ∧ j ≤ l.length) (fun j => l.length - j) [] (k + 1)
   (by rw [histL_snoc hv, hh, if_pos rfl, hp]; simp (decide := true) (maxSteps := 4000000) -implicitDefEqProofs only [S0, ↓reduceIte, Int.reduceAdd, Int.reduceSub, Int.reduceToNat, Int.reduceNeg, Nat.reduceAdd, Nat.reduceMul, Nat.reduceSub, reduceCtorEq, List.length_take, Nat.min_eq_left (Nat.le_of_lt hkl)])
   (by rw [histL_snoc hv, hh, if_pos rfl, hp]; simp (decide := true) (maxSteps := 4000000) -implicitDefEqProofs only [S0, ↓reduceIte, Int.reduceAdd, Int.reduceSub, Int.reduceToNat, Int.reduceNeg, Nat.reduceAdd, Nat.reduceMul, Nat.reduceSub, reduceCtorEq, List.length_take, Nat.min_eq_left (Nat.le_of_lt hkl), List.take_append_drop]) ⟨by omega, by omega⟩ ?_
  rintro j ⟨hj, hjl⟩
  have lp := histL_len a (l.take j)
  rw [List.length_take] at lp
  have lp2 : (histL a (l.take j)).length < j := by
   have e : l.take j = l.take (k + 1) ++ (l.drop (k + 1)).take (j - (k + 1)) := by
    rw [← List.take_add]; congr 1; omega
   have sn := histL_snoc (a := a) hv
   rw [hh, if_pos rfl, hp] at sn
   have sp : histL a (l.take j) = l.take k ++ histL a ((l.drop (k + 1)).take (j - (k + 1))) := by
    rw [e, ← sn]; exact List.filter_append ..
   have := histL_len a ((l.drop (k + 1)).take (j - (k + 1)))
   rw [List.length_take] at this
   rw [sp, List.length_append, List.length_take]
   omega
  by_cases h : (j : Int) < l.length
  ·obtain ⟨w, hw2⟩ := lt_get (l := l) (i := j) (by omega)
   have hwj := wr_add1 h (by omega)
   have sn := histL_snoc (a := a) hw2
   have rd : (histL a (l.take j) ++ l.drop (histL a (l.take j)).length)[j]? = some w := by
    rw [List.getElem?_append_right (by omega), List.getElem?_drop, ← hw2]
    congr 1
    omega
   generalize hF : histL a (l.take j) = F at *
   simp (decide := true) (maxSteps := 4000000) -implicitDefEqProofs only [S0, ↓reduceIte, Int.reduceAdd, Int.reduceSub, Int.reduceToNat, Int.reduceNeg, Nat.reduceAdd, Nat.reduceMul, Nat.reduceSub, reduceCtorEq, h, rd]
   refine callH (hist1_ok w a) [.e 1] ?_
   cases e : hidI a w with
   | true =>
    rw [e, if_pos rfl] at sn
    simp (decide := true) (maxSteps := 4000000) -implicitDefEqProofs only [S0, ↓reduceIte, Int.reduceAdd, Int.reduceSub, Int.reduceToNat, Int.reduceNeg, Nat.reduceAdd, Nat.reduceMul, Nat.reduceSub, reduceCtorEq]
    exact Nxt.mk [] (j + 1) (by simp (decide := true) (maxSteps := 4000000) -implicitDefEqProofs only [S0, ↓reduceIte, Int.reduceAdd, Int.reduceSub, Int.reduceToNat, Int.reduceNeg, Nat.reduceAdd, Nat.reduceMul, Nat.reduceSub, reduceCtorEq, hwj, sn]) (by simp (decide := true) (maxSteps := 4000000) -implicitDefEqProofs only [S0, ↓reduceIte, Int.reduceAdd, Int.reduceSub, Int.reduceToNat, Int.reduceNeg, Nat.reduceAdd, Nat.reduceMul, Nat.reduceSub, reduceCtorEq, sn]) ⟨by omega, by omega⟩ (by omega)
   | false =>
    rw [e, if_neg (by simp)] at sn
    have hwF := wr_add1 (n := l.length) (i := F.length) (by omega) (by omega)
    have st : (List.map verC (F ++ l.drop F.length)).set F.length (verC w) = List.map verC (F ++ [w] ++ l.drop (F ++ [w]).length) := by
     rw [← List.map_set]
     congr 1
     rw [List.set_append_right _ _ (Nat.le_refl _), Nat.sub_self, List.length_append, List.length_singleton, List.append_assoc]
     congr 1
     rw [List.drop_eq_getElem_cons (show F.length < l.length by omega)]
     rfl
    obtain ⟨u, hu⟩ := lt_get (l := l) (i := F.length) (by omega)
    have ru : (F ++ l.drop F.length)[F.length]? = some u := by
     rw [List.getElem?_append_right (Nat.le_refl _), List.getElem?_drop, ← hu]
     congr 1
     omega
    simp (decide := true) (maxSteps := 4000000) -implicitDefEqProofs only [S0, ↓reduceIte, Int.reduceAdd, Int.reduceSub, Int.reduceToNat, Int.reduceNeg, Nat.reduceAdd, Nat.reduceMul, Nat.reduceSub, reduceCtorEq, hwF, ru, hwj]
    refine ⟨by omega, ?_⟩
    exact Nxt.mk [] (j + 1) (by simp (decide := true) (maxSteps := 4000000) -implicitDefEqProofs only [S0, ↓reduceIte, Int.reduceAdd, Int.reduceSub, Int.reduceToNat, Int.reduceNeg, Nat.reduceAdd, Nat.reduceMul, Nat.reduceSub, reduceCtorEq, sn, List.length_append, List.length_singleton]) (by rw [sn, ← st]; simp (decide := true) (maxSteps := 4000000) -implicitDefEqProofs only [S0, ↓reduceIte, Int.reduceAdd, Int.reduceSub, Int.reduceToNat, Int.reduceNeg, Nat.reduceAdd, Nat.reduceMul, Nat.reduceSub, reduceCtorEq]) ⟨by omega, by omega⟩ (by omega)
  ·obtain rfl : j = l.length := by omega
   have ta := List.take_of_length_le (Nat.le_refl l.length)
   rw [ta] at lp lp2 ⊢
   generalize hF : histL a l = F at *
   have e1 : List.take F.length (List.map verC (F ++ List.drop F.length l)) = List.map verC F := by
    rw [← List.map_take, List.take_left]
   have e2 : List.drop (F.length + (l.length - F.length)) (List.map verC (F ++ List.drop F.length l)) = [] := by
    rw [List.drop_eq_nil_of_le]; simp
   simp (decide := true) (maxSteps := 4000000) -implicitDefEqProofs only [S0, ↓reduceIte, Int.reduceAdd, Int.reduceSub, Int.reduceToNat, Int.reduceNeg, Nat.reduceAdd, Nat.reduceMul, Nat.reduceSub, reduceCtorEq, h, Option.getD_some, e1, e2, List.append_nil]
   exact ⟨by omega, .inl (by omega), by simp, .inl (by omega), rfl⟩
def histE (l : List Vn) (id : ByteArray) : Int := if chkSt l = 0 then (if (histL id l).length = 0 then 4 else 0) else chkSt l
theorem Hist_ok (l : List Vn) (id : ByteArray) : Ok Try.prog 28 [vers l, S id] (.tup [vers (if chkSt l = 0 then histL id l else []), I (histE l id)]) := by
 refine Ok.of_wp (rs := [.tmp 4, .tmp 5]) (n := 22) Try.func28 rfl rfl rfl (by simp) fo (by kernel_rfl) ?_
 simp (decide := true) (maxSteps := 4000000) -implicitDefEqProofs only [S0, ↓reduceIte, Int.reduceAdd, Int.reduceSub, Int.reduceToNat, Int.reduceNeg, Nat.reduceAdd, Nat.reduceMul, Nat.reduceSub, reduceCtorEq]
 refine call_eq (stCheck_ok l) ?_
 by_cases h1 : chkSt l = 0
 ·have hl := chkSt_len h1
  have lp := histL_len id l
  simp (decide := true) (maxSteps := 4000000) -implicitDefEqProofs only [S0, ↓reduceIte, Int.reduceAdd, Int.reduceSub, Int.reduceToNat, Int.reduceNeg, Nat.reduceAdd, Nat.reduceMul, Nat.reduceSub, reduceCtorEq, h1]
  refine callH (cloneVersH_ok (l := l) (by omega)) [.l 14] ?_
  simp (decide := true) (maxSteps := 4000000) -implicitDefEqProofs only [S0, ↓reduceIte, Int.reduceAdd, Int.reduceSub, Int.reduceToNat, Int.reduceNeg, Nat.reduceAdd, Nat.reduceMul, Nat.reduceSub, reduceCtorEq]
  refine callH (delI_ok l (by omega) id) [.l 14, .l 3] ?_
  have e3 : List.take (histL id l).length (List.map verC (histL id l) ++ List.replicate (l.length - (histL id l).length) verZ) = List.map verC (histL id l) := List.take_left' (by simp)
  simp (decide := true) (maxSteps := 4000000) -implicitDefEqProofs only [S0, ↓reduceIte, Int.reduceAdd, Int.reduceSub, Int.reduceToNat, Int.reduceNeg, Nat.reduceAdd, Nat.reduceMul, Nat.reduceSub, reduceCtorEq, e3, Nat.le_add_right]
  refine call_eq (stCopied_ok (l := histL id l) (by omega) (fun v hv => chkSt_lens h1 v (List.mem_filter.1 hv).1)) ?_
  by_cases h2 : (histL id l).length = 0
  ·have e0 : histE l id = 4 := by rw [histE, if_pos h1, if_pos h2]
   have e1 := List.eq_nil_of_length_eq_zero h2
   rw [e1] at h2 ⊢
   simp (decide := true) (maxSteps := 4000000) -implicitDefEqProofs only [S0, ↓reduceIte, Int.reduceAdd, Int.reduceSub, Int.reduceToNat, Int.reduceNeg, Nat.reduceAdd, Nat.reduceMul, Nat.reduceSub, reduceCtorEq, e0]
   try rfl
  ·have e0 : histE l id = 0 := by rw [histE, if_pos h1, if_neg h2]
   simp (decide := true) (maxSteps := 4000000) -implicitDefEqProofs only [S0, ↓reduceIte, Int.reduceAdd, Int.reduceSub, Int.reduceToNat, Int.reduceNeg, Nat.reduceAdd, Nat.reduceMul, Nat.reduceSub, reduceCtorEq, e0, show ¬ (((histL id l).length : Int) = 0) by omega]
   try rfl
 ·have e0 : histE l id = chkSt l := by rw [histE, if_neg h1]
  simp (decide := true) (maxSteps := 4000000) -implicitDefEqProofs only [S0, ↓reduceIte, Int.reduceAdd, Int.reduceSub, Int.reduceToNat, Int.reduceNeg, Nat.reduceAdd, Nat.reduceMul, Nat.reduceSub, reduceCtorEq, h1, e0]
end Go.Proofs.Ytpdenloeacaadaa.E

namespace Go.Proofs.Ytpdenloeacaadaa.E
open Go
set_option linter.unusedSimpArgs false
set_option linter.unusedVariables false
set_option linter.unusedSectionVars false
set_option maxRecDepth 20000
theorem hist_part (id : ByteArray) (a : Int) (l : List Vn) : histL id (partL a l) = partL a (histL id l) := by
 unfold histL partL
 rw [List.filter_filter, List.filter_filter]
 refine List.filter_congr fun v _ => ?_
 rw [Bool.and_comm]
theorem cnt_hist_le (id : ByteArray) (l : List Vn) (c : Int) : cnt (histL id l) c ≤ cnt l c := by
 unfold cnt histL
 rw [List.filter_filter, ← List.countP_eq_length_filter, ← List.countP_eq_length_filter]
 exact List.countP_mono_left fun x _ h => by simp only [Bool.and_eq_true] at h; exact h.1
theorem histL_add (a : ByteArray) (l : List Vn) (v : Vn) : histL a (l ++ [v]) = if hidI a v then histL a l else histL a l ++ [v] := by
 unfold histL
 rw [List.filter_append]
 cases e : hidI a v with
 | true => simp [e]
 | false => simp [e]
theorem lives_hist (l : List Vn) (id : ByteArray) (c : Int) : lives (histL id l) id c = lives l id c := by
 induction l using snoc_ind with
 | h0 => rfl
 | h1 l v ih =>
  rw [histL_add, lives_add]
  cases e : hidI id v with
  | true =>
   rw [if_pos rfl, ih, lStep, if_neg]
   rintro ⟨h, _⟩
   unfold hidI at e
   rw [h] at e
   simp at e
  | false =>
   rw [if_neg (by simp), lives_add, ih]
theorem chkGo_hist (a : ByteArray) : ∀ (m p : List Vn), chkGo p m = 0 → chkGo (histL a p) (histL a m) = 0 := by
 intro m
 induction m with
 | nil => intro p _; rfl
 | cons v m ih =>
  intro p h
  simp only [chkGo] at h
  split at h
  ·rename_i h0
   have := ih _ h
   rw [histL_add] at this
   cases e : hidI a v with
   | true =>
    rw [e, if_pos rfl] at this
    have e2 : histL a (v :: m) = histL a m := by unfold histL; rw [List.filter_cons, e]; rfl
    rw [e2]; exact this
   | false =>
    rw [e, if_neg (by simp)] at this
    have e2 : histL a (v :: m) = v :: histL a m := by unfold histL; rw [List.filter_cons, e]; rfl
    have hc : v.r.id = a := by unfold hidI at e; simpa using e
    rw [e2, chkGo]
    have e3 : stepE (histL a p) v = 0 := by
     have hl : lives (histL a p) v.r.id v.r.cats = lives p v.r.id v.r.cats := by rw [hc]; exact lives_hist p a _
     have hn := cnt_hist_le a p v.r.cats
     unfold stepE at h0 ⊢
     rw [hl]
     split at h0
     ·rename_i h1
      rw [if_pos h1]
      split at h0
      ·cases h0
      ·rename_i h2
       rw [if_neg (by omega)]
       exact h0
     ·rename_i h1; rw [if_neg h1]; exact h0
    rw [e3, if_pos rfl]
    exact this
  ·rename_i h0; exact absurd h h0
theorem chkSt_hist {id : ByteArray} {l : List Vn} (h : chkSt l = 0) : chkSt (histL id l) = 0 := by
 have hl := (chkSt_len h).1
 have := histL_len id l
 unfold chkSt at h ⊢
 rw [if_neg (by omega)] at h ⊢
 exact chkGo_hist id l [] h
end Go.Proofs.Ytpdenloeacaadaa.E
