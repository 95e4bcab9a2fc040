/- Walks: slices.Sort of strings, by the shelf's contract. No conditions. -/
import Derived.Test.YtljickachmdejaaStoreP
import Derived.Test.YtljickachmdejaaShelf
namespace Go.Proofs.Ytljickachmdejaa.E
open Go
set_option linter.unusedSimpArgs false
set_option linter.unusedVariables false
set_option linter.unusedSectionVars false
set_option maxRecDepth 20000
set_option maxHeartbeats 1000000
def sortL (l : List ByteArray) : List ByteArray := ((l.map fun s => s.data.toList).mergeSort fun x y => decide (x ≤ y)).map fun b => ⟨b.toArray⟩
theorem sortL_len (l : List ByteArray) : (sortL l).length = l.length := by unfold sortL; simp
theorem flat_one (l : List ByteArray) : (l.map fun s => [S s]).flatten = l.map S := by
  induction l with
  | nil => rfl
  | cons x l ih => simp only [List.map_cons, List.flatten_cons, ih]; rfl
theorem rvl_strs {w : World} {Q : Nat → Prop} {l : List ByteArray} {vs : List Value} (h : RVL w Q (l.map S) vs) : vs = l.map Value.string := by
  induction l generalizing vs with
  | nil => simpa [RVL] using h
  | cons x l ih =>
    simp only [List.map_cons, RVL, RV] at h
    obtain ⟨_, _, rfl, ⟨rfl, _⟩, h⟩ := h
    rw [ih h]; rfl
theorem strs_rvl {w : World} {Q : Nat → Prop} (l : List ByteArray) : RVL w Q (l.map S) (l.map Value.string) := by
  induction l with
  | nil => simp [RVL]
  | cons x l ih =>
    simp only [List.map_cons, RVL, RV]
    exact ⟨_, _, rfl, ⟨rfl, rfl⟩, ih⟩
open _root_.Go.Sort _root_.Go.RowKit in
theorem sortS_ok (l : List ByteArray) (hl : l.length ≤ 1000000) : OkH Try.prog 34 [.own (.e 0) 0 1 0 l.length] [.row 9 1 none (l.map fun s => [S s])] (.val (.tuple #[])) [(0, .row 9 1 none ((sortL l).map fun s => [S s]))] := by
  intro w c vs hi hv
  have hget : Hp.get (hpE 0 ([Blk.row 9 1 none (l.map fun s => [S s])].map fun b => (0, b))) (.e 0) = (0, .row 9 1 none (l.map fun s => [S s])) := rfl
  simp only [RelL] at hv
  obtain ⟨u, us, rfl, hu, rfl⟩ := hv
  rcases row_block hi hget hu (by simp) with ⟨_, rfl, h0, _⟩ | ⟨b, cp, xs, rest, hloc, rfl, hle, hq, hcp, hb, hlen, hone, hr, hxl, hrc⟩
  · have l0 : l = [] := List.eq_nil_of_length_eq_zero h0
    subst l0
    have hcon := Try.slices_Sort_string_none none 0 w
    refine hcon.mono ?_
    rintro e w' ⟨rfl, rfl⟩
    have e : sortL [] = [] := List.eq_nil_of_length_eq_zero (sortL_len [])
    rw [e]
    exact ⟨_, c, rfl, Ext.refl _ _, hi, by simp only [RelV]; exact ⟨trivial, rfl⟩⟩
  · obtain ⟨_, hlv, h0, hkr, _⟩ := hi.row hget
    have hfl : (l.map fun s => [S s]).flatten = l.map S := flat_one l
    have hxs : xs = l.map Value.string := rvl_strs (by rw [hfl] at hr; exact hr)
    have hH : Holds encStr w b 0 (l.map fun s => s.data.toList).toArray := by
      intro j hj
      have hj' : j < l.length := by simpa using hj
      refine ⟨?_, by simp only [World.frozen?, hb]; simp⟩
      rw [Nat.zero_add, cell_block hb, hxs, List.getElem?_append_left (by simpa using hj'), List.getElem?_map, List.getElem?_eq_getElem hj', Option.map_some, getElem!_pos (l.map fun s => s.data.toList).toArray j hj]
      simp [encStr]
    have hcon := Try.slices_Sort_string b 0 cp (l.map fun s => s.data.toList) w hH (List.getElem?_eq_some_iff.1 (by simpa using hb)).1 (by rw [List.length_map]; omega)
    rw [List.length_map] at hcon
    refine hcon.mono ?_
    rintro e w' ⟨rfl, n, os, rfl⟩
    generalize hM : (l.map fun s => s.data.toList).mergeSort (fun x y => decide (x ≤ y)) = M
    have hML : M.length = l.length := by rw [← hM]; simp
    have hU : Upd w b (.cells (M.map encStr ++ rest).toArray 9 (0, 0)) (putRow encStr (Sort.ahead w n) b 0 M.toArray) := by
      refine ⟨rfl, rfl, rfl, by simp [Sort.ahead], ?_, ?_⟩
      · have hb' : (Sort.ahead w n).heap[b]? = some (.cells (xs ++ rest).toArray 9 (0, 0)) := hb
        unfold putRow mapBlock
        simp only [Array.getElem?_modify, if_true, hb', Option.map_some, onCells]
        congr 2
        apply Array.ext_getElem?
        intro k
        unfold putCells
        rw [Array.getElem?_mapIdx]
        simp only [List.getElem?_toArray, Nat.zero_le, true_and, Nat.zero_add, Nat.sub_zero, List.size_toArray]
        by_cases hk : k < M.length
        · rw [List.getElem?_append_left (by rw [hxs, List.length_map]; omega), List.getElem?_append_left (by simpa using hk), hxs, List.getElem?_map, List.getElem?_map, List.getElem?_eq_getElem hk, List.getElem?_eq_getElem (show k < l.length by omega)]
          simp [hk]
        · rw [List.getElem?_append_right (by rw [hxs, List.length_map]; omega), List.getElem?_append_right (by simpa using hk), hxs, List.length_map, List.length_map, hML]
          have hk2 : ¬ k < l.length := by omega
          simp [hk, hk2]
      · intro k hk
        unfold putRow mapBlock
        simp only [Array.getElem?_modify, if_neg (fun h : b = k => hk h.symm)]
        rfl
    have hrow := row_upd (rows := (sortL l).map fun s => [S s]) (vs := M.map encStr) (rest := rest) hi hlv hloc hU rfl hq hcp h0 (fun r hr => by obtain ⟨x, _, rfl⟩ := List.mem_map.1 hr; rfl)
      (by rw [← hlen, List.length_append, List.length_append, List.length_map, hML, hxs, List.length_map]) (by
        intro u hu
        rcases List.mem_append.1 hu with hu | hu
        · obtain ⟨x, _, rfl⟩ := List.mem_map.1 hu; rfl
        · exact hone u (List.mem_append_right _ hu)) (by
        rw [flat_one]
        have : M.map encStr = (sortL l).map Value.string := by unfold sortL; rw [hM, List.map_map]; rfl
        rw [this]
        exact strs_rvl _)
    obtain ⟨hE, hI⟩ := hrow
    generalize putRow encStr (Sort.ahead w n) b 0 M.toArray = w2 at hE hI hU
    have hold : ∀ k, k < w2.heap.size → (grow w2 os).heap[k]? = w2.heap[k]? := fun k hk => heap_grow_old w2 os hk
    have hE2 : Ext w2 c (grow w2 os) c := ⟨rfl, rfl, rfl, by simp [grow], fun k hk hn => ⟨hold k hk, hn⟩, rfl, fun _ => .inr ⟨rfl, rfl, id⟩⟩
    exact ⟨_, c, rfl, hE.trans hE2, hI.ext hE2 (fun k hk => hold k (hI.lt k hk)), by simp only [RelV]; exact ⟨trivial, rfl⟩⟩
end Go.Proofs.Ytljickachmdejaa.E
