/- Walks: slices.Delete of one string, in place, by the shelf's contract. No conditions. -/
import Derived.Test.YtpdenloeacaadaaGreatDoorGSo
import Derived.Test.YtpdenloeacaadaaGreatDoorIdxR
import Derived.Test.YtpdenloeacaadaaGreatDoorShelf
namespace Go.Proofs.YtpdenloeacaadaaGreatDoor.E
open Go
set_option linter.unusedSimpArgs false
set_option linter.unusedVariables false
set_option linter.unusedSectionVars false
set_option maxRecDepth 20000
set_option maxHeartbeats 1000000
open _root_.Go.Sort _root_.Go.RowKit in
theorem delS_ok (l : List ByteArray) (d : Nat) (hd : d < l.length) (hl : l.length ≤ 1000000) : OkH Tryz.prog 52 [.own (.e 0) 0 1 0 l.length, I d, I ((d + 1 : Nat) : Int)] [rw1 l] (.own (.e 0) 0 1 0 (l.length - 1)) [(0, rw1 (l.take d ++ l.drop (d + 1)))] := by
 intro w c vs hi hv
 have hget : Hp.get (hpE 0 ([rw1 l].map fun b => (0, b))) (.e 0) = (0, rw1 l) := rfl
 simp only [RelL] at hv
 obtain ⟨u, us, rfl, hu, _, us2, rfl, hd1, _, us3, rfl, hd2, rfl⟩ := hv
 simp only [RelV] at hd1 hd2
 obtain ⟨rfl, _⟩ := hd1
 obtain ⟨rfl, _⟩ := hd2
 rcases row_block hi hget hu (by simp) with ⟨_, rfl, h0, _⟩ | ⟨b, cp, xs, rest, hloc, rfl, hle, hq, hcp, hb, hlen, hone, hr, hxl, hrc⟩
 ·omega
 ·obtain ⟨hc0, hlv, h0, hkr, _⟩ := hi.row hget
  have hfl : (l.map ssC).flatten = l.map S := flat_one l
  have hxs : xs = l.map Value.string := rvl_strs (by rw [hfl] at hr; exact hr)
  have hH : Holds encStr w b 0 (l.map fun s => s.data.toList).toArray := by
   intro j hj
   have hj' : j < l.length := by simpa using hj
   refine ⟨?_, by simp only [World.frozen?, hb]; simp⟩
   rw [Nat.zero_add, cell_block hb, hxs, List.getElem?_append_left (by simpa using hj'), List.getElem?_map, List.getElem?_eq_getElem hj', Option.map_some, getElem!_pos (l.map fun s => s.data.toList).toArray j hj]
   simp [encStr]
  have hcon := Tryz.slices_Delete_string b 0 cp d (d + 1) (l.map fun s => s.data.toList) w hH (by rw [List.length_map]; exact hle) (by unfold maxLen at hcp; omega) (by omega) (by rw [List.length_map]; omega)
  rw [List.length_map, show d + 1 - d = 1 by omega] at hcon
  refine hcon.mono ?_
  rintro e w' ⟨rfl, n, rfl⟩
  generalize hM : (l.map fun s => s.data.toList).take d ++ (l.map fun s => s.data.toList).drop (d + 1) ++ List.replicate 1 [] = M
  have hML : M.length = l.length := by rw [← hM]; simp only [List.length_append, List.length_take, List.length_drop, List.length_map, List.length_replicate]; omega
  have hMe : M.map encStr = (l.take d ++ l.drop (d + 1)).map Value.string ++ [Value.string ⟨#[]⟩] := by
   rw [← hM, ← List.map_take, ← List.map_drop]
   simp only [List.map_append, List.map_map, List.replicate_one, List.map_cons, List.map_nil]
   rfl
  have hU : Upd w b (.cells (M.map encStr ++ rest).toArray 9 (0, 0)) (putRow encStr (Sort.ahead w n) b 0 M.toArray) := by
   refine ⟨rfl, rfl, rfl, by simp [Sort.ahead], ?_, ?_⟩
   ·have hb' : (Sort.ahead w n).heap[b]? = some (.cells (xs ++ rest).toArray 9 (0, 0)) := hb
    unfold putRow mapBlock
    simp only [Array.getElem?_modify, if_true, hb', Option.map_some, onCells]
    congr 2
    apply Array.ext_getElem?
    intro k
    unfold putCells
    rw [Array.getElem?_mapIdx]
    simp only [List.getElem?_toArray, Nat.zero_le, true_and, Nat.zero_add, Nat.sub_zero, List.size_toArray]
    by_cases hk : k < M.length
    ·rw [List.getElem?_append_left (by rw [hxs, List.length_map]; omega), List.getElem?_append_left (by simpa using hk), hxs, List.getElem?_map, List.getElem?_map, List.getElem?_eq_getElem hk, List.getElem?_eq_getElem (show k < l.length by omega)]
     simp [hk]
    ·rw [List.getElem?_append_right (by rw [hxs, List.length_map]; omega), List.getElem?_append_right (by simpa using hk), hxs, List.length_map, List.length_map, hML]
     have hk2 : ¬ k < l.length := by omega
     simp [hk, hk2]
   ·intro k hk
    unfold putRow mapBlock
    simp only [Array.getElem?_modify, if_neg (fun h : b = k => hk h.symm)]
    rfl
  have hrow := row_upd (rows := (l.take d ++ l.drop (d + 1)).map ssC) (vs := (l.take d ++ l.drop (d + 1)).map Value.string) (rest := [Value.string ⟨#[]⟩] ++ rest) hi hlv hloc hU (by rw [hMe, List.append_assoc]) hq hcp h0 (fun r hr => by obtain ⟨x, _, rfl⟩ := List.mem_map.1 hr; rfl)
   (by rw [← hlen, List.length_append, List.length_append, List.length_map, hML, hxs, List.length_map]) (by
    intro u hu
    rcases List.mem_append.1 hu with hu | hu
    ·obtain ⟨x, _, rfl⟩ := List.mem_map.1 hu; rfl
    ·exact hone u (List.mem_append_right _ hu)) (by
    have e : ((l.take d ++ l.drop (d + 1)).map ssC).flatten = (l.take d ++ l.drop (d + 1)).map S := flat_one _
    rw [e]
    exact strs_rvl _)
  obtain ⟨hE, hI⟩ := hrow
  refine ⟨_, c, rfl, hE, hI, ?_⟩
  simp only [RelV]
  rw [hloc]
  exact ⟨Nat.zero_le _, fun _ => ⟨by omega, _, rfl, fun _ => rfl⟩⟩
end Go.Proofs.YtpdenloeacaadaaGreatDoor.E
