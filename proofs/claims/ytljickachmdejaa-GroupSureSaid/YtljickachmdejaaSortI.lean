/- Walks: slices.Sorted of slices.Values of ints. No conditions. -/
import Derived.Test.YtljickachmdejaaIterGI
import Derived.Test.YtljickachmdejaaShelf
import Derived.Test.YtljickachmdejaaRecB
import Derived.RangeFuncBox
import Derived.RangeFuncLeaves
import Derived.Shelf.Abstract
import Derived.WalkKit
import Derived.OwnWalkIn
import Derived.TacticsInMore
import Derived.LoopNIn
import Derived.LoopIn
namespace Go.Proofs.Ytljickachmdejaa.E
open Go
set_option linter.unusedSimpArgs false
set_option linter.unusedVariables false
set_option linter.unusedSectionVars false
set_option maxRecDepth 20000
def sortI (l : List Int) : List Int := l.mergeSort fun x y => decide (x ≤ y)
theorem sortI_len (l : List Int) : (sortI l).length = l.length := by unfold sortI; simp
abbrev zs1 (l : List Int) : List (List AV) := l.map fun a => [I a]
theorem flatZ (l : List Int) : (zs1 l).flatten = l.map I := by
  induction l with
  | nil => rfl
  | cons x l ih => simp only [zs1, List.map_cons, List.flatten_cons] at ih ⊢; rw [ih]; rfl
theorem rvl_ints {w : World} {Q : Nat → Prop} {l : List Int} {vs : List Value} (h : RVL w Q (l.map I) vs) : vs = l.map (Value.int .i64) := by
  induction l generalizing vs with
  | nil => simpa [RVL] using h
  | cons x l ih =>
    simp only [List.map_cons, RVL, RV] at h
    obtain ⟨_, _, rfl, ⟨rfl, _⟩, h⟩ := h
    rw [ih h]; rfl
theorem ints_rvl {w : World} {Q : Nat → Prop} (l : List Int) : RVL w Q (l.map I) (l.map (Value.int .i64)) := by
  induction l with
  | nil => simp [RVL]
  | cons x l ih =>
    simp only [List.map_cons, RVL, RV]
    exact ⟨_, _, rfl, ⟨rfl, rfl⟩, ih⟩
section
open _root_.Go.RowKit _root_.Go.Maps _root_.Go.Sort _root_.Go.Shelf
attribute [local go_sem] Oper.semAt_some
theorem takeZ_succ {l : List Int} {k : Nat} {s : Int} (h : l[k]? = some s) : l.take (k + 1) = l.take k ++ [s] := take_get h
set_option maxRecDepth 100000 in
set_option maxHeartbeats 2000000 in
theorem vals1I_gives (F : Fence) (n : Nat) (hf : F.fn 38) (hro : F.round = none) (hn : 1 ≤ n) (Bs o b off cap : Nat) (zs : List Int) (hreach : zs.length * 8 ≤ 140737488355328) (w : World) (hB : Bs < w.heap.size) (hb : b < w.heap.size)
    (hBs : w.cell? ⟨Bs, o, none⟩ = some (.slice (some ⟨b, off, none⟩) zs.length cap)) (hc : ∀ j z, zs[j]? = some z → w.cell? ⟨b, off + j, none⟩ = some (.int .i64 z)) :
    SeqGivesI F n Try.prog 38 #[.pointer (some ⟨Bs, o, none⟩)] encZ (fun ss => ss = zs) zs.length w := by
  intro l J W hW hJ hJB hY h0
  have hBsW : W.cell? ⟨Bs, o, none⟩ = some (.slice (some ⟨b, off, none⟩) zs.length cap) := (hW.cell (p := ⟨Bs, o, none⟩) hB).trans hBs
  refine callsIn_of_wp Try.func38 rfl hf ?_ hro
  simp only [Try.ntmps38, List.size_toArray, List.length_cons, List.length_nil, Nat.reduceAdd, Nat.reduceSub, Array.replicate_succ, Array.replicate_zero, List.push_toArray, List.append_toArray, List.nil_append, List.cons_append]
  gi_wp2
  gi_loopw [7] (fun i wr => ∃ k : Nat, k ≤ zs.length ∧ i = .int .i64 k ∧ J (zs.take k) wr)
    (fun i _ => zs.length - (intOf i).toNat)
  case atStart => exact ⟨0, Nat.zero_le _, rfl, h0⟩
  case round =>
    obtain ⟨k, hk, rfl, hJs⟩ := hrel
    by_cases hlt : k < zs.length
    · obtain ⟨z, hz⟩ := lt_get hlt
      have hcx : wr.cell? ⟨b, off + k, none⟩ = some (.int .i64 z) := ((hJB _ _ hJs).cell (p := ⟨b, off + k, none⟩) hb).trans (hc k z hz)
      have hlen : (zs.take k).length < zs.length := by rw [List.length_take]; omega
      obtain ⟨fn, tmps, assign, body, hy, hR⟩ := hY _ z wr hJs hlen
      rw [← takeZ_succ hz] at hR
      gi_wp2
      refine hR.mono ?_
      rintro e W3 ⟨rfl, hJ3, hk3⟩
      gi_wp2
      go_roundw
      case rel => exact ⟨k + 1, by omega, by simp, hJ3⟩
      case measure => simp [intOf]; omega
    · obtain rfl : k = zs.length := by omega
      gi_wp2
      go_end0
      refine ⟨⟨_, rfl⟩, _, ?_, hJs⟩
      rw [List.take_of_length_le (Nat.le_refl _)]
theorem sortsI (m : Nat) : AnyZI.SortsIn Try.prog Try.sortedI_ren Fence.wide m :=
  ⟨fun blk off cap ss W hH hblk hsz => callsIn_wide.2 (Try.slices_Sort_int blk off cap ss W hH hblk hsz),
   fun p cap W => callsIn_wide.2 (Try.slices_Sort_int_none p cap W)⟩
set_option maxHeartbeats 2000000 in
theorem sortedV_ok (l : List Int) (h0 : l ≠ []) (hl : l.length ≤ 1000000) (t : TypeId) (q : Option Nat) : OkH Try.prog 27 [.func 38 [.ptr (.e 0) 0 0]] [.cells t [.own (.e 1) 0 1 0 l.length], .row 3 1 q (zs1 l)] (ints (sortI l)) [(0, .cells t [.own (.e 1) 0 1 0 l.length]), (0, .row 3 1 q (zs1 l))] := by
  intro w c vs hi hv
  have hg0 : Hp.get (hpE 0 ([Blk.cells t [.own (.e 1) 0 1 0 l.length], .row 3 1 q (zs1 l)].map fun b => (0, b))) (.e 0) = (0, .cells t [.own (.e 1) 0 1 0 l.length]) := rfl
  have hg1 : Hp.get (hpE 0 ([Blk.cells t [.own (.e 1) 0 1 0 l.length], .row 3 1 q (zs1 l)].map fun b => (0, b))) (.e 1) = (0, .row 3 1 q (zs1 l)) := rfl
  simp only [RelL] at hv
  obtain ⟨u, us, rfl, hu, rfl⟩ := hv
  simp only [RelV] at hu
  obtain ⟨us, rfl, hu⟩ := hu
  simp only [RelL] at hu
  obtain ⟨p, us, rfl, hp, rfl⟩ := hu
  obtain ⟨g1, hlv, B, cpB, xs, hB, hBh, ho, hBr⟩ := hi.cells hg0
  simp only [RelL] at hBr
  obtain ⟨sv, us, rfl, hsv, rfl⟩ := hBr
  simp only [RelV] at hp
  obtain ⟨B', cp', e1, rfl⟩ := hp.2 g1.symm
  rw [hB] at e1
  cases e1
  have hBlt : B < w.heap.size := hi.lt B ⟨_, _, hlv, hB⟩
  rcases row_block hi hg1 hsv (by simp) with ⟨_, _, h1, _⟩ | ⟨b, cp, ys, rest, hloc, rfl, hle, hq, hcp, hb, hlen, hone, hr, hxl, hrc⟩
  · exact absurd (List.eq_nil_of_length_eq_zero h1) h0
  have hys : ys = l.map (Value.int .i64) := rvl_ints (by rw [flatZ] at hr; exact hr)
  have hblt : b < w.heap.size := (Array.getElem?_eq_some_iff.1 hb).1
  have hseq := vals1I_gives Fence.wide 2 trivial rfl (by omega) B 0 b 0 cp l (by omega) w hBlt hblt (by rw [cell_block hBh]; rfl) (fun j z hz => by
    rw [Nat.zero_add, cell_block hb, hys, List.getElem?_append_left (by simpa using (List.getElem?_eq_some_iff.1 hz).1), List.getElem?_map, hz]; rfl)
  have cS := sortedI (ρ := Try.sortedI_ren) Try.sortedI Fence.wide 5 trivial trivial trivial trivial rfl (by omega) (sortsI _) (enters_of Try.func37 (by kernel_rfl) rfl) 38 #[.pointer (some ⟨B, 0, none⟩)] trivial (enters_of Try.func38 (by kernel_rfl) rfl) _ l.length (by simp only [maxLen]; omega) (by omega) w (fun ss e => by rw [e]; exact Nat.le_refl _) hseq
  have cC := (callsIn_wide (n := 5)).1 cS
  refine cC.mono ?_
  rintro e w' ⟨v, ss, rfl, rfl, hrow, _, hbel⟩
  have he : Ext w c w' c := ⟨hbel.os, hbel.tape, hbel.output, hbel.size, fun b hb hn => ⟨hbel.block b hb, hn⟩, rfl, fun s => .inr ⟨rfl, rfl, id⟩⟩
  refine ⟨v, c, rfl, he, hi.ext he fun b hb => hbel.block b (hi.lt b hb), ?_⟩
  rcases hrow.2 with ⟨_, hz⟩ | ⟨gb, cap, cur, rfl, hbase, hgb, r1, r2, r3, r4⟩
  · exact absurd (List.eq_nil_of_length_eq_zero hz) h0
  simp only [RelV, RV]
  refine ⟨_, cap, ?_, ?_, fun h => (by cases h), .inr ⟨gb, 0, rfl, ⟨(Array.getElem?_eq_some_iff.1 hgb).1, fun hl => ?_, fun hf => ?_⟩, ?_⟩⟩
  · rw [List.length_map, sortI_len]
  · rw [List.length_map, sortI_len]; exact r1
  · have := hi.lt gb hl; omega
  · have := hi.farlt gb hf; omega
  · refine RVRows.of_flat (fun x hx => by obtain ⟨y, _, rfl⟩ := List.mem_map.1 hx; rfl) ?_
    have e : (List.map (fun n => [I n]) (sortI ss)).flatten = (sortI ss).map I := flatZ _
    rw [e]
    refine RVAt.of_vals (ints_rvl _) (fun u hu => by obtain ⟨y, _, rfl⟩ := List.mem_map.1 hu; rfl) fun i v hv => ?_
    have hc : w'.heap[gb]? = some (.cells cur.toList.toArray 3 (0, 0)) := by rw [Array.toArray_toList]; exact hgb
    rw [cell_block hc, Nat.zero_add, ← hv, show (sortI ss).map (Value.int .i64) = cur.toList.take (ss.length * 1) from r4.symm, List.getElem?_take]
    have hi2 : i < ss.length := by
      have := (List.getElem?_eq_some_iff.1 hv).1
      simpa [sortI_len] using this
    rw [if_pos (by omega)]
end
theorem valsI_ok (n : Nat) (q : Option Nat) (rows : List (List AV)) : OkH Try.prog 28 [.own (.e 0) 0 1 0 n] [.row 3 1 q rows] (.func 38 [.ptr (.e 1) 1 0]) [(0, .row 3 1 q rows), (1, .cells 55 [.own (.e 0) 0 1 0 n])] := by
  refine OkH.of_wp (rs := [.tmp 2]) (n := 4) [some (.l 1)] Try.func28 rfl rfl rfl (by simp) fo (by kernel_rfl) ?_
  simp (decide := true) (maxSteps := 4000000) -implicitDefEqProofs only [evs, tabs, puts, siteD, gget, tget, tset, initT, dstAt, ev, evC, plain, Hp.get, Hp.set, bnd, isCells, isRow, SubA, SubC, Sub, SubL, CvA, Cv, dis, ordB, ite_self, exists_eq', List.mem_cons, List.not_mem_nil, Site.m.injEq, bne_self_eq_false, beq_iff_eq, bne_iff_ne, ↓reduceIte, Int.reduceAdd, Int.reduceSub, Int.reduceToNat, Int.reduceNeg, Nat.reduceAdd, Nat.reduceMul, Nat.reduceSub, exists_eq_left', exists_eq_left, implies_true, forall_const, Site.l.injEq, Site.e.injEq, reduceCtorEq, beq_self_eq_true, ne_eq, or_true, Option.getD_some]
end Go.Proofs.Ytljickachmdejaa.E
