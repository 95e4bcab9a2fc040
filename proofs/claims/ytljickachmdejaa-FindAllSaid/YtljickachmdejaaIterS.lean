/- Walks: slices.Values of strings, and slices.Sorted of what it tells. No conditions. -/
import Derived.Test.YtljickachmdejaaIterG
import Derived.Test.YtljickachmdejaaSortS
import Derived.RangeFuncBox
import Derived.RangeFuncLeaves
import Derived.Shelf.Abstract
import Derived.WalkKit
import Derived.OwnWalkIn
import Derived.TacticsInMore
import Derived.LoopNIn
import Derived.LoopIn
namespace Go.Proofs.Ytljickachmdejaa.E
open Go Go.RowKit Go.Maps Go.Sort Go.Shelf
set_option linter.unusedSimpArgs false
set_option linter.unusedVariables false
set_option linter.unusedSectionVars false
set_option maxRecDepth 20000
attribute [local go_sem] Oper.semAt_some
def uptoS (l : List ByteArray) (k : Nat) : List (List UInt8) := (l.take k).map fun s => s.data.toList
theorem uptoS_succ {l : List ByteArray} {k : Nat} {s : ByteArray} (h : l[k]? = some s) : uptoS l (k + 1) = uptoS l k ++ [s.data.toList] := by
  unfold uptoS; rw [take_get h, List.map_append]; rfl
set_option maxRecDepth 100000 in
set_option maxHeartbeats 2000000 in
theorem vals1_gives (F : Fence) (n : Nat) (hf : F.fn 35) (hro : F.round = none) (hn : 1 ≤ n) (Bs o b off cap : Nat) (zs : List ByteArray) (hreach : zs.length * 16 ≤ 140737488355328) (w : World) (hB : Bs < w.heap.size) (hb : b < w.heap.size)
    (hBs : w.cell? ⟨Bs, o, none⟩ = some (.slice (some ⟨b, off, none⟩) zs.length cap)) (hc : ∀ j z, zs[j]? = some z → w.cell? ⟨b, off + j, none⟩ = some (.string z)) :
    SeqGivesB F n Try.prog 35 #[.pointer (some ⟨Bs, o, none⟩)] encStr (fun ss => ss = zs.map fun s => s.data.toList) zs.length w := by
  intro l J W hW hJ hJB hY h0
  have hBsW : W.cell? ⟨Bs, o, none⟩ = some (.slice (some ⟨b, off, none⟩) zs.length cap) := (hW.cell (p := ⟨Bs, o, none⟩) hB).trans hBs
  refine callsIn_of_wp Try.func35 rfl hf ?_ hro
  simp only [Try.ntmps35, List.size_toArray, List.length_cons, List.length_nil, Nat.reduceAdd, Nat.reduceSub, Array.replicate_succ, Array.replicate_zero, List.push_toArray, List.append_toArray, List.nil_append, List.cons_append]
  gi_wp2
  gi_loopw [7] (fun i wr => ∃ k : Nat, k ≤ zs.length ∧ i = .int .i64 k ∧ J (uptoS zs k) wr)
    (fun i _ => zs.length - (intOf i).toNat)
  case atStart => exact ⟨0, Nat.zero_le _, rfl, h0⟩
  case round =>
    obtain ⟨k, hk, rfl, hJs⟩ := hrel
    by_cases hlt : k < zs.length
    · obtain ⟨z, hz⟩ := lt_get hlt
      have hcx : wr.cell? ⟨b, off + k, none⟩ = some (.string z) := ((hJB _ _ hJs).cell (p := ⟨b, off + k, none⟩) hb).trans (hc k z hz)
      have hlen : (uptoS zs k).length < zs.length := by unfold uptoS; rw [List.length_map, List.length_take]; omega
      obtain ⟨fn, tmps, assign, body, hy, hR⟩ := hY _ z.data.toList wr hJs hlen
      rw [← uptoS_succ hz] at hR
      gi_wp2
      refine hR.mono ?_
      rintro e W3 ⟨rfl, hJ3, hk3⟩
      gi_wp2
      go_roundw
      case rel => exact ⟨k + 1, by omega, by simp, hJ3⟩
      case measure => simp [intOf]; omega
    · obtain rfl : k = zs.length := by omega
      gi_wp2
      go_end0
      refine ⟨⟨_, rfl⟩, _, ?_, hJs⟩
      unfold uptoS
      rw [List.take_of_length_le (Nat.le_refl _)]
end Go.Proofs.Ytljickachmdejaa.E
