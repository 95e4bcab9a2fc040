/- Several texts in one: SortS Ids StrsF SortedS SlicesF FindA Hist HistP. No conditions. -/
import Derived.Test.YtonolfpnidaflaaGreatDoorGRe
import Derived.Test.YtonolfpnidaflaaGreatDoorShelf
import Derived.Test.YtonolfpnidaflaaGreatDoorGSt
namespace Go.Proofs.YtonolfpnidaflaaGreatDoor.E
open Go
set_option linter.unusedSimpArgs false
set_option linter.unusedVariables false
set_option linter.unusedSectionVars false
set_option maxRecDepth 20000
set_option maxHeartbeats 1000000
def sortL (l : List ByteArray) : List ByteArray := ((l.map fun s => s.data.toList).mergeSort fun x y => decide (x ≤ y)).map fun b => ⟨b.toArray⟩
theorem sortL_len (l : List ByteArray) : (sortL l).length = l.length := by unfold sortL; simp
theorem flat_one (l : List ByteArray) : (l.map fun s => [S s]).flatten = l.map S := by
 induction l with
 | nil => rfl
 | cons x l ih => simp only [List.map_cons, List.flatten_cons, ih]; rfl
theorem rvl_strs {w : World} {Q : Nat → Prop} {l : List ByteArray} {vs : List Value} (h : RVL w Q (l.map S) vs) : vs = l.map Value.string := by
 induction l generalizing vs with
 | nil => simpa [RVL] using h
 | cons x l ih =>
  simp only [List.map_cons, RVL, RV] at h
  obtain ⟨_, _, rfl, ⟨rfl, _⟩, h⟩ := h
  rw [ih h]; rfl
theorem strs_rvl {w : World} {Q : Nat → Prop} (l : List ByteArray) : RVL w Q (l.map S) (l.map Value.string) := by
 induction l with
 | nil => simp [RVL]
 | cons x l ih =>
  simp only [List.map_cons, RVL, RV]
  exact ⟨_, _, rfl, ⟨rfl, rfl⟩, ih⟩
open _root_.Go.Sort _root_.Go.RowKit in
theorem sortS_ok (l : List ByteArray) (hl : l.length ≤ 1000000) : OkH Tryz.prog 113 [.own (.e 0) 0 1 0 l.length] [.row 9 1 none (l.map fun s => [S s])] (.val (.tuple #[])) [(0, .row 9 1 none ((sortL l).map fun s => [S s]))] := by
 intro w c vs hi hv
 have hget : Hp.get (hpE 0 ([Blk.row 9 1 none (l.map fun s => [S s])].map fun b => (0, b))) (.e 0) = (0, .row 9 1 none (l.map fun s => [S s])) := rfl
 simp only [RelL] at hv
 obtain ⟨u, us, rfl, hu, rfl⟩ := hv
 rcases row_block hi hget hu (by simp) with ⟨_, rfl, h0, _⟩ | ⟨b, cp, xs, rest, hloc, rfl, hle, hq, hcp, hb, hlen, hone, hr, hxl, hrc⟩
 ·have l0 : l = [] := List.eq_nil_of_length_eq_zero h0
  subst l0
  have hcon := Tryz.slices_Sort_string_none none 0 w
  refine hcon.mono ?_
  rintro e w' ⟨rfl, rfl⟩
  have e : sortL [] = [] := List.eq_nil_of_length_eq_zero (sortL_len [])
  rw [e]
  exact ⟨_, c, rfl, Ext.refl _ _, hi, by simp only [RelV]; exact ⟨trivial, rfl⟩⟩
 ·obtain ⟨_, hlv, h0, hkr, _⟩ := hi.row hget
  have hfl : (l.map fun s => [S s]).flatten = l.map S := flat_one l
  have hxs : xs = l.map Value.string := rvl_strs (by rw [hfl] at hr; exact hr)
  have hH : Holds encStr w b 0 (l.map fun s => s.data.toList).toArray := by
   intro j hj
   have hj' : j < l.length := by simpa using hj
   refine ⟨?_, by simp only [World.frozen?, hb]; simp⟩
   rw [Nat.zero_add, cell_block hb, hxs, List.getElem?_append_left (by simpa using hj'), List.getElem?_map, List.getElem?_eq_getElem hj', Option.map_some, getElem!_pos (l.map fun s => s.data.toList).toArray j hj]
   simp [encStr]
  have hcon := Tryz.slices_Sort_string b 0 cp (l.map fun s => s.data.toList) w hH (List.getElem?_eq_some_iff.1 (by simpa using hb)).1 (by rw [List.length_map]; omega)
  rw [List.length_map] at hcon
  refine hcon.mono ?_
  rintro e w' ⟨rfl, n, os, rfl⟩
  generalize hM : (l.map fun s => s.data.toList).mergeSort (fun x y => decide (x ≤ y)) = M
  have hML : M.length = l.length := by rw [← hM]; simp
  have hU : Upd w b (.cells (M.map encStr ++ rest).toArray 9 (0, 0)) (putRow encStr (Sort.ahead w n) b 0 M.toArray) := by
   refine ⟨rfl, rfl, rfl, by simp [Sort.ahead], ?_, ?_⟩
   ·have hb' : (Sort.ahead w n).heap[b]? = some (.cells (xs ++ rest).toArray 9 (0, 0)) := hb
    unfold putRow mapBlock
    simp only [Array.getElem?_modify, if_true, hb', Option.map_some, onCells]
    congr 2
    apply Array.ext_getElem?
    intro k
    unfold putCells
    rw [Array.getElem?_mapIdx]
    simp only [List.getElem?_toArray, Nat.zero_le, true_and, Nat.zero_add, Nat.sub_zero, List.size_toArray]
    by_cases hk : k < M.length
    ·rw [List.getElem?_append_left (by rw [hxs, List.length_map]; omega), List.getElem?_append_left (by simpa using hk), hxs, List.getElem?_map, List.getElem?_map, List.getElem?_eq_getElem hk, List.getElem?_eq_getElem (show k < l.length by omega)]
     simp [hk]
    ·rw [List.getElem?_append_right (by rw [hxs, List.length_map]; omega), List.getElem?_append_right (by simpa using hk), hxs, List.length_map, List.length_map, hML]
     have hk2 : ¬ k < l.length := by omega
     simp [hk, hk2]
   ·intro k hk
    unfold putRow mapBlock
    simp only [Array.getElem?_modify, if_neg (fun h : b = k => hk h.symm)]
    rfl
  have hrow := row_upd (rows := (sortL l).map fun s => [S s]) (vs := M.map encStr) (rest := rest) hi hlv hloc hU rfl hq hcp h0 (fun r hr => by obtain ⟨x, _, rfl⟩ := List.mem_map.1 hr; rfl)
   (by rw [← hlen, List.length_append, List.length_append, List.length_map, hML, hxs, List.length_map]) (by
    intro u hu
    rcases List.mem_append.1 hu with hu | hu
    ·obtain ⟨x, _, rfl⟩ := List.mem_map.1 hu; rfl
    ·exact hone u (List.mem_append_right _ hu)) (by
    rw [flat_one]
    have : M.map encStr = (sortL l).map Value.string := by unfold sortL; rw [hM, List.map_map]; rfl
    rw [this]
    exact strs_rvl _)
  obtain ⟨hE, hI⟩ := hrow
  generalize putRow encStr (Sort.ahead w n) b 0 M.toArray = w2 at hE hI hU
  have hold : ∀ k, k < w2.heap.size → (grow w2 os).heap[k]? = w2.heap[k]? := fun k hk => heap_grow_old w2 os hk
  have hE2 : Ext w2 c (grow w2 os) c := ⟨rfl, rfl, rfl, by simp [grow], fun k hk hn => ⟨hold k hk, hn⟩, rfl, fun _ => .inr ⟨rfl, rfl, id⟩⟩
  exact ⟨_, c, rfl, hE.trans hE2, hI.ext hE2 (fun k hk => hold k (hI.lt k hk)), by simp only [RelV]; exact ⟨trivial, rfl⟩⟩
end Go.Proofs.YtonolfpnidaflaaGreatDoor.E

namespace Go.Proofs.YtonolfpnidaflaaGreatDoor.E
open Go
set_option linter.unusedSimpArgs false
set_option linter.unusedVariables false
set_option linter.unusedSectionVars false
set_option maxRecDepth 20000
set_option maxHeartbeats 1000000
def hasB (l : List ByteArray) (x : ByteArray) : Bool := l.any fun y => decide (y = x)
theorem hasB_iff {l : List ByteArray} {x : ByteArray} : hasB l x = true ↔ x ∈ l := by
 unfold hasB
 rw [List.any_eq_true]
 constructor
 ·rintro ⟨y, hy, e⟩; rw [← of_decide_eq_true e]; exact hy
 ·intro h; exact ⟨x, h, by simp⟩
/-- Each name once, in the order in which they come first. -/
def dist (l : List Vn) : List ByteArray := l.foldl (fun out v => if hasB out v.r.id then out else out ++ [v.r.id]) []
theorem dist_add (l : List Vn) (v : Vn) : dist (l ++ [v]) = if hasB (dist l) v.r.id then dist l else dist l ++ [v.r.id] := by
 unfold dist
 rw [List.foldl_append]
 rfl
def idsF (l m : List Vn) : List ByteArray := (dist m).filter fun id => (getN l id).isSome
def idsL (l : List Vn) : List ByteArray := sortL (idsF l l)
theorem dist_len (l : List Vn) : (dist l).length ≤ l.length := by
 have key : ∀ n, (dist (l.take n)).length ≤ n := by
  intro n
  induction n with
  | zero => simp [dist]
  | succ n ih =>
   by_cases h : n < l.length
   ·obtain ⟨v, hv⟩ := lt_get (l := l) (i := n) h
    rw [take_get hv, dist_add]
    split
    ·omega
    ·simp; omega
   ·have e : l.take (n + 1) = l.take n := by rw [List.take_of_length_le (by omega), List.take_of_length_le (by omega)]
    rw [e]; omega
 have := key l.length
 rwa [List.take_of_length_le (Nat.le_refl _)] at this
theorem idsF_nil (l : List Vn) : idsF l [] = [] := rfl
theorem Ids_ok (l : List Vn) : Ok Tryz.prog 83 [vers l] (.tup [strs (if chkSt l = 0 then idsL l else []), I (chkSt l)]) := by
 refine Ok.of_wp (rs := [.tmp 2, .tmp 3]) (n := 48) Tryz.func83 rfl rfl rfl (by simp) fo (by kernel_rfl) ?_
 simp +decide -implicitDefEqProofs only [S0, simprocAttr]
 refine call_eq (stCheck_ok l) ?_
 by_cases h1 : chkSt l = 0
 ·obtain ⟨hlen, hrec⟩ := chkSt_len h1
  have ge := getE_eq h1
  simp +decide -implicitDefEqProofs only [S0, simprocAttr, h1]
  refine ALoop.st [0, 5, 6, 18, 19, 20] (fun (s : Nat × List (Value × Value)) => [vers l, .own (.l 43) 0 1 0 (idsF l (l.take s.1)).length, .map (.l 17) 1, vers l, I l.length, I s.1]) (fun s => [(.l 17, 1, .map .s s.2), (.l 43, 0, .row 9 1 none ((idsF l (l.take s.1)).map fun x => [S x]))])
   (fun s => s.1 ≤ l.length ∧ ∀ c : ByteArray, (mget s.2 (.string c)).getD (.bool false) = .bool (hasB (dist (l.take s.1)) c)) (fun s => l.length - s.1) [.l 43] (0, []) (by simp +decide -implicitDefEqProofs only [S0, simprocAttr, List.take_zero, idsF_nil, List.length_nil, List.map_nil]) (by simp +decide -implicitDefEqProofs only [S0, simprocAttr, List.take_zero, idsF_nil, List.length_nil, List.map_nil]) ⟨by simp, fun c => rfl⟩ ?_
  rintro ⟨i, es⟩ ⟨hi, hm⟩
  simp only at hi hm
  by_cases h : (i : Int) < l.length
  ·obtain ⟨v, hv⟩ := get_lt h
   have hw := wr_add1 h (by omega)
   have hm1 := hm v.r.id
   have ad := dist_add (l.take i) v
   rw [← take_get hv] at ad
   have hln := dist_len (l.take i)
   rw [List.length_take] at hln
   have hfl : (idsF l (l.take i)).length ≤ (dist (l.take i)).length := List.length_filter_le _ _
   by_cases hs : hasB (dist (l.take i)) v.r.id = true
   ·rw [if_pos hs] at ad
    rw [hs] at hm1
    have nx : idsF l (l.take (i + 1)) = idsF l (l.take i) := by unfold idsF; rw [ad]
    simp +decide -implicitDefEqProofs only [S0, simprocAttr, h, hv, hm1]
    exact Nxt.mk [] (i + 1, es) (by simp +decide -implicitDefEqProofs only [S0, simprocAttr, hw, nx]) (by simp +decide -implicitDefEqProofs only [S0, simprocAttr, nx]) ⟨by simp only; omega, by rw [ad]; exact hm⟩ (by simp only; omega)
   ·rw [if_neg hs] at ad
    rw [Bool.eq_false_iff.2 hs] at hm1
    have hput : ∀ c, (mget (mput es (.string v.r.id) (.bool true)) (.string c)).getD (.bool false) = .bool (hasB (dist (l.take (i + 1))) c) := by
     intro c
     rw [mget_put_s, ad]
     by_cases h2 : v.r.id = c
     ·simp [h2, hasB]
     ·rw [if_neg h2, hm]
      simp [h2, hasB]
    have nx : idsF l (l.take (i + 1)) = idsF l (l.take i) ++ [v.r.id].filter fun id => (getN l id).isSome := by unfold idsF; rw [ad, List.filter_append]
    simp +decide -implicitDefEqProofs only [S0, simprocAttr, h, hv, hm1]
    refine call_eq (Get_ok l v.r.id) ?_
    rw [ge, if_pos h1]
    generalize (getN l v.r.id).getD noRec = P
    cases hg : (getN l v.r.id).isSome with
    | true =>
     rw [show [v.r.id].filter (fun id => (getN l id).isSome) = [v.r.id] by simp [hg]] at nx
     have tkF : List.take (idsF l (l.take i)).length ((idsF l (l.take i)).map fun x => [S x]) = (idsF l (l.take i)).map fun x => [S x] := List.take_of_length_le (by simp)
     simp +decide -implicitDefEqProofs only [S0, simprocAttr, tkF]
     refine ⟨by omega, ?_⟩
     exact Nxt.mk [] (i + 1, _) (by rw [nx, List.length_append, List.length_singleton]; simp +decide -implicitDefEqProofs only [S0, simprocAttr, hw]) (by rw [nx, List.map_append]; simp +decide -implicitDefEqProofs only [S0, simprocAttr, List.map_cons, List.map_nil]; try rfl) ⟨by simp only; omega, hput⟩ (by simp only; omega)
    | false =>
     rw [show [v.r.id].filter (fun id => (getN l id).isSome) = [] by simp [hg], List.append_nil] at nx
     simp +decide -implicitDefEqProofs only [S0, simprocAttr]
     exact Nxt.mk [] (i + 1, _) (by simp +decide -implicitDefEqProofs only [S0, simprocAttr, hw, nx]) (by simp +decide -implicitDefEqProofs only [S0, simprocAttr, nx]) ⟨by simp only; omega, hput⟩ (by simp only; omega)
  ·obtain rfl : i = l.length := by omega
   have hln := dist_len l
   have hfl : (idsF l l).length ≤ (dist l).length := List.length_filter_le _ _
   rw [List.take_of_length_le (Nat.le_refl _)]
   simp +decide -implicitDefEqProofs only [S0, simprocAttr, h]
   refine callH (sortS_ok (idsF l l) (by omega)) [.l 43] ?_
   have ln := sortL_len (idsF l l)
   have tkS : List.take (idsF l l).length ((sortL (idsF l l)).map fun s => [S s]) = (sortL (idsF l l)).map fun s => [S s] := List.take_of_length_le (by simp [ln])
   simp +decide -implicitDefEqProofs only [S0, simprocAttr, ln, tkS, Nat.le_refl]
   rfl
 ·simp +decide -implicitDefEqProofs only [S0, simprocAttr, h1]
end Go.Proofs.YtonolfpnidaflaaGreatDoor.E

namespace Go.Proofs.YtonolfpnidaflaaGreatDoor.E
open Go
set_option linter.unusedSimpArgs false
set_option linter.unusedVariables false
set_option linter.unusedSectionVars false
set_option maxRecDepth 20000
set_option maxHeartbeats 1000000
theorem Ids_okS {l : List Vn} (h : chkSt l = 0) : Ok Tryz.prog 83 [vers l] (.tup [strs (idsL l), I 0]) := by
 have := Ids_ok l
 rwa [h, if_pos rfl] at this
theorem Get_okS {l : List Vn} (h : chkSt l = 0) (id : ByteArray) : Ok Tryz.prog 78 [vers l, S id] (.tup [recV ((getN l id).getD noRec), I (if (getN l id).isSome then 0 else 4)]) := by
 have := Get_ok l id
 rwa [if_pos h, getE_eq h] at this
/-! Names. -/
theorem sortL_perm (l : List ByteArray) : (sortL l).Perm l := by
 unfold sortL
 have h := (List.mergeSort_perm (l.map fun s => s.data.toList) (fun x y => decide (x ≤ y))).map fun b : List UInt8 => (⟨b.toArray⟩ : ByteArray)
 rw [List.map_map] at h
 have e : l.map ((fun b : List UInt8 => (⟨b.toArray⟩ : ByteArray)) ∘ fun s => s.data.toList) = l := by
  conv => rhs; rw [← List.map_id l]
  rfl
 rwa [e] at h
theorem dist_mem {l : List Vn} {x : ByteArray} : x ∈ dist l ↔ ∃ v ∈ l, v.r.id = x := by
 induction l using snoc_ind with
 | h0 => simp [dist]
 | h1 l v ih =>
  rw [dist_add]
  by_cases h : hasB (dist l) v.r.id = true
  ·rw [if_pos h, ih]
   constructor
   ·rintro ⟨w, hw, e⟩; exact ⟨w, by simp [hw], e⟩
   ·rintro ⟨w, hw, e⟩
    rcases List.mem_append.1 hw with hw | hw
    ·exact ⟨w, hw, e⟩
    ·rw [List.mem_singleton.1 hw] at e
     subst e
     exact ih.1 (hasB_iff.1 h)
  ·rw [if_neg h, List.mem_append, ih, List.mem_singleton]
   constructor
   ·rintro (⟨w, hw, e⟩ | e)
    ·exact ⟨w, by simp [hw], e⟩
    ·exact ⟨v, by simp, e.symm⟩
   ·rintro ⟨w, hw, e⟩
    rcases List.mem_append.1 hw with hw | hw
    ·exact .inl ⟨w, hw, e⟩
    ·rw [List.mem_singleton.1 hw] at e; exact .inr e.symm
theorem ids_mem {l : List Vn} {x : ByteArray} : x ∈ idsL l ↔ (getN l x).isSome = true := by
 unfold idsL
 rw [(sortL_perm _).mem_iff]
 unfold idsF
 rw [List.mem_filter, dist_mem]
 refine ⟨fun h => h.2, fun h => ⟨?_, h⟩⟩
 obtain ⟨r, hr⟩ := Option.isSome_iff_exists.1 h
 obtain ⟨e, v, hv, e2⟩ := getN_some hr
 exact ⟨v, hv, by rw [e2]; exact e⟩
theorem ids_len (l : List Vn) : (idsL l).length ≤ l.length := by
 unfold idsL
 rw [sortL_len]
 exact Nat.le_trans (List.length_filter_le _ _) (dist_len l)
end Go.Proofs.YtonolfpnidaflaaGreatDoor.E

namespace Go.Proofs.YtonolfpnidaflaaGreatDoor.E
open Go
set_option linter.unusedSimpArgs false
set_option linter.unusedVariables false
set_option linter.unusedSectionVars false
set_option maxRecDepth 20000
set_option maxHeartbeats 1000000
end Go.Proofs.YtonolfpnidaflaaGreatDoor.E

namespace Go.Proofs.YtonolfpnidaflaaGreatDoor.E
open Go
set_option linter.unusedSimpArgs false
set_option linter.unusedVariables false
set_option linter.unusedSectionVars false
set_option maxRecDepth 20000
def idxF {α : Type} [DecidableEq α] (x : α) : Nat → List α → Int
 | _, [] => -1
 | i, y :: l => if y = x then i else idxF x (i + 1) l
theorem idxF_iff {α : Type} [DecidableEq α] (x : α) (i : Nat) (l : List α) : 0 ≤ idxF x i l ↔ x ∈ l := by
 induction l generalizing i with
 | nil => simp [idxF]
 | cons y l ih =>
  simp only [idxF, List.mem_cons]
  by_cases h : y = x
  ·rw [if_pos h]
   exact ⟨fun _ => .inl h.symm, fun _ => by omega⟩
  ·rw [if_neg h, ih]
   exact ⟨.inr, fun h' => h'.elim (fun e => absurd e.symm h) id⟩
theorem fd_eq (f g : Fd) : (decide (f.key = g.key) && decide (f.val = g.val)) = decide (f = g) := by
 cases f; cases g
 rw [Bool.eq_iff_iff]; simp
theorem idxFds_ok (l : List Fd) (f : Fd) (hl : l.length ≤ 1000000000000) : Ok Tryz.prog 114 [fds l, fdV f] (I (idxF f 0 l)) := by
 refine Ok.of_wp (rs := [.tmp 4]) (n := 19) Tryz.func114 rfl rfl rfl (by simp) fo (by kernel_rfl) ?_
 simp +decide -implicitDefEqProofs only [S0, simprocAttr]
 refine ALoop.st [0, 3, 7, 8] (fun (i : Nat) => [fds l, .ptr (.l 3) 1 0, I l.length, I i]) (fun _ => [(.l 3, 1, .cells 37 [S f.key, S f.val])]) (fun i => i ≤ l.length ∧ idxF f i (l.drop i) = idxF f 0 l) (fun i => l.length - i) [] 0 (by simp +decide -implicitDefEqProofs only [S0, simprocAttr]; try rfl) (by simp +decide -implicitDefEqProofs only [S0, simprocAttr]) ⟨by omega, rfl⟩ ?_
 rintro i ⟨hi, hu⟩
 simp +decide -implicitDefEqProofs only [S0, simprocAttr]
 split
 ·rename_i h
  obtain ⟨g, hg⟩ := get_lt h
  rw [get_drop hg, idxF] at hu
  have hw := wr_add1 h (by omega)
  by_cases he : g = f
  ·have he' : (decide (f.key = g.key) && decide (f.val = g.val)) = true := by rw [fd_eq]; exact decide_eq_true he.symm
   rw [if_pos he] at hu
   simp +decide -implicitDefEqProofs only [S0, simprocAttr, hg, toList_beq, he']
   rw [← hu]
  ·have he' : (decide (f.key = g.key) && decide (f.val = g.val)) = false := by rw [fd_eq]; exact decide_eq_false fun e => he e.symm
   rw [if_neg he] at hu
   simp +decide -implicitDefEqProofs only [S0, simprocAttr, hg, toList_beq, he']
   exact Nxt.mk [] (i + 1) (by simp +decide -implicitDefEqProofs only [S0, simprocAttr, hw]) (by simp +decide -implicitDefEqProofs only [S0, simprocAttr]) ⟨by omega, hu⟩ (by omega)
 ·rename_i h
  rw [drop_all h, idxF] at hu
  rw [← hu]
theorem hasFds_ok (l : List Fd) (f : Fd) (hl : l.length ≤ 1000000000000) : Ok Tryz.prog 86 [fds l, fdV f] (B (decide (f ∈ l))) := by
 refine Ok.of_wp (rs := [.tmp 4]) (n := 9) Tryz.func86 rfl rfl rfl (by simp) fo (by kernel_rfl) ?_
 simp +decide -implicitDefEqProofs only [S0, simprocAttr]
 refine call_eq (idxFds_ok l f hl) ?_
 simp +decide -implicitDefEqProofs only [S0, simprocAttr]
 refine B_eq ?_
 rw [Bool.eq_iff_iff, decide_eq_true_eq, decide_eq_true_eq, ← idxF_iff f 0]
end Go.Proofs.YtonolfpnidaflaaGreatDoor.E

namespace Go.Proofs.YtonolfpnidaflaaGreatDoor.E
open Go
set_option linter.unusedSimpArgs false
set_option linter.unusedVariables false
set_option linter.unusedSectionVars false
set_option maxRecDepth 20000
set_option maxHeartbeats 1000000
def byOk (f : Fd) : Bool := idOk f.key && valOk f.val
def hasF (l : List Vn) (f : Fd) (id : ByteArray) : Bool := decide (f ∈ ((getN l id).getD noRec).fields)
def byL (l : List Vn) (f : Fd) : List ByteArray := (idsL l).filter (hasF l f)
theorem By_okS {l : List Vn} (h : chkSt l = 0) (f : Fd) : Ok Tryz.prog 44 [vers l, fdV f] (.tup [strs (if byOk f then byL l f else []), I (if byOk f then 0 else 3)]) := by
 refine Ok.of_wp (rs := [.tmp 4, .tmp 5]) (n := 53) Tryz.func44 rfl rfl rfl (by simp) fo (by kernel_rfl) ?_
 have lx := ids_len l
 have hl := (chkSt_len h).1
 simp +decide -implicitDefEqProofs only [S0, simprocAttr]
 refine call_eq (Ids_okS h) ?_
 simp +decide -implicitDefEqProofs only [S0, simprocAttr]
 refine call_eq (Id_ok f.key) ?_
 cases h1 : idOk f.key with
 | false =>
  have e0 : byOk f = false := by rw [byOk, h1]; rfl
  simp +decide -implicitDefEqProofs only [S0, simprocAttr, h1, e0]
  try rfl
 | true =>
  simp +decide -implicitDefEqProofs only [S0, simprocAttr]
  refine call_eq (Value_ok f.val) ?_
  cases h2 : valOk f.val with
  | false =>
   have e0 : byOk f = false := by rw [byOk, h1, h2]; rfl
   simp +decide -implicitDefEqProofs only [S0, simprocAttr, h1, e0]
   try rfl
  | true =>
   have e0 : byOk f = true := by rw [byOk, h1, h2]; rfl
   rw [e0, if_pos rfl, if_pos rfl]
   have hb : byL l f = (idsL l).filter (hasF l f) := rfl
   rw [hb]
   have hgl := fun id => getD_lens h id
   generalize idsL l = X at *
   simp +decide -implicitDefEqProofs only [S0, simprocAttr]
   refine ALoop.st [0, 3, 8, 31, 32, 33] (fun (i : Nat) => [vers l, .ptr (.l 3) 1 0, .own (.l 50) 0 1 0 ((X.take i).filter (hasF l f)).length, strs X, I X.length, I i]) (fun i => [(.l 3, 1, .cells 37 [S f.key, S f.val]), (.l 50, 0, .row 9 1 none (((X.take i).filter (hasF l f)).map fun x => [S x]))]) (fun i => i ≤ X.length) (fun i => X.length - i) [.l 50] 0 (by simp +decide -implicitDefEqProofs only [S0, simprocAttr, List.take_zero, List.filter_nil, List.length_nil, List.map_nil]) (by simp +decide -implicitDefEqProofs only [S0, simprocAttr, List.take_zero, List.filter_nil, List.length_nil, List.map_nil]) (by simp) ?_
   intro i hi
   by_cases hlt : (i : Int) < X.length
   ·obtain ⟨x, hx⟩ := get_lt hlt
    have hw := wr_add1 hlt (by omega)
    have nx : (X.take (i + 1)).filter (hasF l f) = (X.take i).filter (hasF l f) ++ [x].filter (hasF l f) := by rw [take_get hx, List.filter_append]
    have hfl : ((X.take i).filter (hasF l f)).length ≤ (X.take i).length := List.length_filter_le _ _
    rw [List.length_take] at hfl
    have hlr := hgl x
    generalize hF : (X.take i).filter (hasF l f) = F at *
    have tkF : List.take F.length (F.map fun x => [S x]) = F.map fun x => [S x] := List.take_of_length_le (by simp)
    simp +decide -implicitDefEqProofs only [S0, simprocAttr, hlt, hx]
    refine call_eq (Get_okS h x) ?_
    simp +decide -implicitDefEqProofs only [S0, simprocAttr]
    refine call_eq (hasFds_ok _ f (by omega)) ?_
    cases hh : hasF l f x with
    | true =>
     rw [show [x].filter (hasF l f) = [x] by simp [hh]] at nx
     unfold hasF at hh
     rw [hh]
     simp +decide -implicitDefEqProofs only [S0, simprocAttr, tkF]
     refine ⟨by omega, ?_⟩
     exact Nxt.mk [] (i + 1) (by rw [nx, List.length_append, List.length_singleton]; simp +decide -implicitDefEqProofs only [S0, simprocAttr, hw]) (by rw [nx, List.map_append]; simp +decide -implicitDefEqProofs only [S0, simprocAttr, List.map_cons, List.map_nil]; try rfl) (by omega) (by omega)
    | false =>
     rw [show [x].filter (hasF l f) = [] by simp [hh], List.append_nil] at nx
     unfold hasF at hh
     rw [hh]
     simp +decide -implicitDefEqProofs only [S0, simprocAttr]
     exact Nxt.mk [] (i + 1) (by simp +decide -implicitDefEqProofs only [S0, simprocAttr, hw, nx]) (by simp +decide -implicitDefEqProofs only [S0, simprocAttr, nx]) (by omega) (by omega)
   ·obtain rfl : i = X.length := by omega
    rw [List.take_of_length_le (Nat.le_refl _)]
    generalize X.filter (hasF l f) = F
    have tkF : List.take F.length (F.map fun x => [S x]) = F.map fun x => [S x] := List.take_of_length_le (by simp)
    simp +decide -implicitDefEqProofs only [S0, simprocAttr, hlt, tkF]
theorem byL_len (l : List Vn) (f : Fd) : (byL l f).length ≤ l.length := Nat.le_trans (List.length_filter_le _ _) (ids_len l)
end Go.Proofs.YtonolfpnidaflaaGreatDoor.E

namespace Go.Proofs.YtonolfpnidaflaaGreatDoor.E
open Go
set_option linter.unusedSimpArgs false
set_option linter.unusedVariables false
set_option linter.unusedSectionVars false
set_option maxRecDepth 20000
set_option maxHeartbeats 1000000
/-- This version is of another name. -/
def hidI (a : ByteArray) (v : Vn) : Bool := !decide (v.r.id = a)
def histL (a : ByteArray) (l : List Vn) : List Vn := l.filter fun v => !hidI a v
def idxI (a : ByteArray) : Nat → List Vn → Int
 | _, [] => -1
 | i, v :: l => if hidI a v then i else idxI a (i + 1) l
theorem hist1_ok (v : Vn) (a : ByteArray) : OkH Tryz.prog 82 [verA v, .ptr (.e 0) 0 0] [.cells 9 [S a]] (B (hidI a v)) [(0, .cells 9 [S a])] := by
 refine OkH.of_wp (rs := [.tmp 3]) (n := 9) [] Tryz.func82 rfl rfl rfl (by simp) fo (by kernel_rfl) ?_
 by_cases h : v.r.id = a
 ·have h' : decide (v.r.id = a) = true := decide_eq_true h
  simp +decide -implicitDefEqProofs only [S0, simprocAttr, toList_beq, h']
  simp [hidI, h]
 ·have h' : decide (v.r.id = a) = false := decide_eq_false h
  simp +decide -implicitDefEqProofs only [S0, simprocAttr, toList_beq, h']
  simp [hidI, h]
theorem idxIO_ok (l : List Vn) (hl : l.length ≤ 1000000) (a : ByteArray) : OkH Tryz.prog 112 [.own (.e 0) 0 5 0 l.length, .func 82 [.ptr (.e 1) 0 0]] [.row 104 5 none (l.map verC), .cells 9 [S a]] (I (idxI a 0 l)) [(0, .row 104 5 none (l.map verC)), (0, .cells 9 [S a])] := by
 refine OkH.of_wp (rs := [.tmp 4]) (n := 19) [] Tryz.func112 rfl rfl rfl (by simp) fo (by kernel_rfl) ?_
 simp +decide -implicitDefEqProofs only [S0, simprocAttr]
 refine ALoop.st [0, 1, 6, 7, 8] (fun (i : Nat) => [.own (.e 0) 0 5 0 l.length, .func 82 [.ptr (.e 1) 0 0], .own (.e 0) 0 5 0 l.length, I l.length, I i]) (fun _ => [(.e 0, 0, .row 104 5 none (l.map verC)), (.e 1, 0, .cells 9 [S a])]) (fun i => i ≤ l.length ∧ idxI a i (l.drop i) = idxI a 0 l) (fun i => l.length - i) [] 0 (by simp +decide -implicitDefEqProofs only [S0, simprocAttr]; try rfl) (by simp +decide -implicitDefEqProofs only [S0, simprocAttr]) ⟨by omega, rfl⟩ ?_
 rintro i ⟨hi, hu⟩
 by_cases h : (i : Int) < l.length
 ·obtain ⟨v, hv⟩ := lt_get (l := l) (i := i) (by omega)
  have hw := wr_add1 h (by omega)
  have hd : l.drop i = v :: l.drop (i + 1) := by
   obtain ⟨h', e⟩ := List.getElem?_eq_some_iff.1 hv
   rw [← e, List.drop_eq_getElem_cons]
  rw [hd, idxI] at hu
  simp +decide -implicitDefEqProofs only [S0, simprocAttr, h, hv]
  refine callH (hist1_ok v a) [.e 1] ?_
  cases e : hidI a v with
  | true =>
   rw [e, if_pos rfl] at hu
   simp +decide -implicitDefEqProofs only [S0, simprocAttr, hu]
  | false =>
   rw [e, if_neg (by simp)] at hu
   simp +decide -implicitDefEqProofs only [S0, simprocAttr]
   exact Nxt.mk [] (i + 1) (by simp +decide -implicitDefEqProofs only [S0, simprocAttr, hw]) (by simp +decide -implicitDefEqProofs only [S0, simprocAttr]) ⟨by omega, hu⟩ (by omega)
 ·rw [List.drop_eq_nil_of_le (by omega), idxI] at hu
  simp +decide -implicitDefEqProofs only [S0, simprocAttr, h, hu]
theorem idxI_none {a : ByteArray} {l : List Vn} : ∀ {n : Nat}, idxI a n l = -1 → histL a l = l := by
 induction l with
 | nil => intro n _; rfl
 | cons v l ih =>
  intro n h
  rw [idxI] at h
  cases e : hidI a v with
  | true => rw [e, if_pos rfl] at h; omega
  | false =>
   rw [e, if_neg (by simp)] at h
   have := ih h
   unfold histL at this ⊢
   rw [List.filter_cons, e, this]
   rfl
theorem idxI_some {a : ByteArray} {l : List Vn} : ∀ {n : Nat} {k : Int}, idxI a n l = k → k ≠ -1 → ∃ i v, k = ((n + i : Nat) : Int) ∧ l[i]? = some v ∧ hidI a v = true ∧ histL a (l.take i) = l.take i := by
 induction l with
 | nil => intro n k h hk; exact absurd h.symm hk
 | cons v l ih =>
  intro n k h hk
  rw [idxI] at h
  cases e : hidI a v with
  | true =>
   rw [e, if_pos rfl] at h
   exact ⟨0, v, h.symm, rfl, e, rfl⟩
  | false =>
   rw [e, if_neg (by simp)] at h
   obtain ⟨i, w, h1, h2, h3, h4⟩ := ih h hk
   refine ⟨i + 1, w, by omega, h2, h3, ?_⟩
   unfold histL at h4 ⊢
   rw [List.take_succ_cons, List.filter_cons, e, h4]
   rfl
theorem histL_len (a : ByteArray) (l : List Vn) : (histL a l).length ≤ l.length := List.length_filter_le _ _
theorem histL_snoc {a : ByteArray} {l : List Vn} {i : Nat} {v : Vn} (h : l[i]? = some v) : histL a (l.take (i + 1)) = if hidI a v then histL a (l.take i) else histL a (l.take i) ++ [v] := by
 rw [take_get h]
 unfold histL
 rw [List.filter_append]
 cases e : hidI a v with
 | true => simp [e]
 | false => simp [e]
theorem delI_ok (l : List Vn) (hl : l.length ≤ 1000000) (a : ByteArray) : OkH Tryz.prog 80 [.own (.e 0) 0 5 0 l.length, .func 82 [.ptr (.e 1) 0 0]] [.row 104 5 none (l.map verC), .cells 9 [S a]] (.own (.e 0) 0 5 0 (histL a l).length) [(0, .row 104 5 none ((histL a l).map verC ++ List.replicate (l.length - (histL a l).length) verZ)), (0, .cells 9 [S a])] := by
 refine OkH.of_wp (rs := [.tmp 4]) (n := 42) [] Tryz.func80 rfl rfl rfl (by simp) fo (by kernel_rfl) ?_
 simp +decide -implicitDefEqProofs only [S0, simprocAttr]
 refine callH (idxIO_ok l hl a) [.e 0, .e 1] ?_
 by_cases hk : idxI a 0 l = -1
 ·have e := idxI_none hk
  rw [e, hk]
  simp +decide -implicitDefEqProofs only [S0, simprocAttr, Nat.sub_self, List.replicate_zero, List.append_nil, Option.getD_some]
 ·obtain ⟨k, v, hk1, hv, hh, hp⟩ := idxI_some rfl hk
  rw [Nat.zero_add] at hk1
  have hkl : k < l.length := by
   obtain ⟨h', _⟩ := List.getElem?_eq_some_iff.1 hv
   exact h'
  have hw := wr_add1 (n := l.length) (i := k) (by omega) (by omega)
  rw [hk1] at hk ⊢
  simp +decide -implicitDefEqProofs only [S0, simprocAttr, hk, hw]
  refine ALoop.st [0, 1, 5, 6] (fun (j : Nat) => [.own (.e 0) 0 5 0 l.length, .func 82 [.ptr (.e 1) 0 0], I (histL a (l.take j)).length, I j]) (fun j => [(.e 0, 0, .row 104 5 none ((histL a (l.take j) ++ l.drop (histL a (l.take j)).length).map verC)), (.e 1, 0, .cells 9 [S a])]) (fun j => k < j ∧ j ≤ l.length) (fun j => l.length - j) [] (k + 1)
   (by rw [histL_snoc hv, hh, if_pos rfl, hp]; simp +decide -implicitDefEqProofs only [S0, simprocAttr, List.length_take, Nat.min_eq_left (Nat.le_of_lt hkl)])
   (by rw [histL_snoc hv, hh, if_pos rfl, hp]; simp +decide -implicitDefEqProofs only [S0, simprocAttr, List.length_take, Nat.min_eq_left (Nat.le_of_lt hkl), List.take_append_drop]) ⟨by omega, by omega⟩ ?_
  rintro j ⟨hj, hjl⟩
  have lp := histL_len a (l.take j)
  rw [List.length_take] at lp
  have lp2 : (histL a (l.take j)).length < j := by
   have e : l.take j = l.take (k + 1) ++ (l.drop (k + 1)).take (j - (k + 1)) := by
    rw [← List.take_add]; congr 1; omega
   have sn := histL_snoc (a := a) hv
   rw [hh, if_pos rfl, hp] at sn
   have sp : histL a (l.take j) = l.take k ++ histL a ((l.drop (k + 1)).take (j - (k + 1))) := by
    rw [e, ← sn]; exact List.filter_append ..
   have := histL_len a ((l.drop (k + 1)).take (j - (k + 1)))
   rw [List.length_take] at this
   rw [sp, List.length_append, List.length_take]
   omega
  by_cases h : (j : Int) < l.length
  ·obtain ⟨w, hw2⟩ := lt_get (l := l) (i := j) (by omega)
   have hwj := wr_add1 h (by omega)
   have sn := histL_snoc (a := a) hw2
   have rd : (histL a (l.take j) ++ l.drop (histL a (l.take j)).length)[j]? = some w := by
    rw [List.getElem?_append_right (by omega), List.getElem?_drop, ← hw2]
    congr 1
    omega
   generalize hF : histL a (l.take j) = F at *
   simp +decide -implicitDefEqProofs only [S0, simprocAttr, h, rd]
   refine callH (hist1_ok w a) [.e 1] ?_
   cases e : hidI a w with
   | true =>
    rw [e, if_pos rfl] at sn
    simp +decide -implicitDefEqProofs only [S0, simprocAttr]
    exact Nxt.mk [] (j + 1) (by simp +decide -implicitDefEqProofs only [S0, simprocAttr, hwj, sn]) (by simp +decide -implicitDefEqProofs only [S0, simprocAttr, sn]) ⟨by omega, by omega⟩ (by omega)
   | false =>
    rw [e, if_neg (by simp)] at sn
    have hwF := wr_add1 (n := l.length) (i := F.length) (by omega) (by omega)
    have st : (List.map verC (F ++ l.drop F.length)).set F.length (verC w) = List.map verC (F ++ [w] ++ l.drop (F ++ [w]).length) := by
     rw [← List.map_set]
     congr 1
     rw [List.set_append_right _ _ (Nat.le_refl _), Nat.sub_self, List.length_append, List.length_singleton, List.append_assoc]
     congr 1
     rw [List.drop_eq_getElem_cons (show F.length < l.length by omega)]
     rfl
    obtain ⟨u, hu⟩ := lt_get (l := l) (i := F.length) (by omega)
    have ru : (F ++ l.drop F.length)[F.length]? = some u := by
     rw [List.getElem?_append_right (Nat.le_refl _), List.getElem?_drop, ← hu]
     congr 1
     omega
    simp +decide -implicitDefEqProofs only [S0, simprocAttr, hwF, ru, hwj]
    refine ⟨by omega, ?_⟩
    exact Nxt.mk [] (j + 1) (by simp +decide -implicitDefEqProofs only [S0, simprocAttr, sn, List.length_append, List.length_singleton]) (by rw [sn, ← st]; simp +decide -implicitDefEqProofs only [S0, simprocAttr]) ⟨by omega, by omega⟩ (by omega)
  ·obtain rfl : j = l.length := by omega
   have ta := List.take_of_length_le (Nat.le_refl l.length)
   rw [ta] at lp lp2 ⊢
   generalize hF : histL a l = F at *
   have e1 : List.take F.length (List.map verC (F ++ List.drop F.length l)) = List.map verC F := by
    rw [← List.map_take, List.take_left]
   have e2 : List.drop (F.length + (l.length - F.length)) (List.map verC (F ++ List.drop F.length l)) = [] := by
    rw [List.drop_eq_nil_of_le]; simp
   simp +decide -implicitDefEqProofs only [S0, simprocAttr, h, Option.getD_some, e1, e2, List.append_nil]
   exact ⟨by omega, .inl (by omega), by simp, .inl (by omega), rfl⟩
def histE (l : List Vn) (id : ByteArray) : Int := if chkSt l = 0 then (if (histL id l).length = 0 then 4 else 0) else chkSt l
theorem Hist_ok (l : List Vn) (id : ByteArray) : Ok Tryz.prog 43 [vers l, S id] (.tup [vers (if chkSt l = 0 then histL id l else []), I (histE l id)]) := by
 refine Ok.of_wp (rs := [.tmp 4, .tmp 5]) (n := 22) Tryz.func43 rfl rfl rfl (by simp) fo (by kernel_rfl) ?_
 simp +decide -implicitDefEqProofs only [S0, simprocAttr]
 refine call_eq (stCheck_ok l) ?_
 by_cases h1 : chkSt l = 0
 ·have hl := chkSt_len h1
  have lp := histL_len id l
  simp +decide -implicitDefEqProofs only [S0, simprocAttr, h1]
  refine callH (cloneVersH_ok (l := l) (by omega)) [.l 14] ?_
  simp +decide -implicitDefEqProofs only [S0, simprocAttr]
  refine callH (delI_ok l (by omega) id) [.l 14, .l 3] ?_
  have e3 : List.take (histL id l).length (List.map verC (histL id l) ++ List.replicate (l.length - (histL id l).length) verZ) = List.map verC (histL id l) := List.take_left' (by simp)
  simp +decide -implicitDefEqProofs only [S0, simprocAttr, e3, Nat.le_add_right]
  refine call_eq (stCopied_ok (l := histL id l) (by omega) (fun v hv => chkSt_lens h1 v (List.mem_filter.1 hv).1)) ?_
  by_cases h2 : (histL id l).length = 0
  ·have e0 : histE l id = 4 := by rw [histE, if_pos h1, if_pos h2]
   have e1 := List.eq_nil_of_length_eq_zero h2
   rw [e1] at h2 ⊢
   simp +decide -implicitDefEqProofs only [S0, simprocAttr, e0]
   try rfl
  ·have e0 : histE l id = 0 := by rw [histE, if_pos h1, if_neg h2]
   simp +decide -implicitDefEqProofs only [S0, simprocAttr, e0, show ¬ (((histL id l).length : Int) = 0) by omega]
   try rfl
 ·have e0 : histE l id = chkSt l := by rw [histE, if_neg h1]
  simp +decide -implicitDefEqProofs only [S0, simprocAttr, h1, e0]
end Go.Proofs.YtonolfpnidaflaaGreatDoor.E

namespace Go.Proofs.YtonolfpnidaflaaGreatDoor.E
open Go
set_option linter.unusedSimpArgs false
set_option linter.unusedVariables false
set_option linter.unusedSectionVars false
set_option maxRecDepth 20000
end Go.Proofs.YtonolfpnidaflaaGreatDoor.E
