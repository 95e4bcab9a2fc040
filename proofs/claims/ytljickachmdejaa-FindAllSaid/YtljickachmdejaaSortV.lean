/- Walks: slices.Sorted of slices.Values of strings, as a row. No conditions. -/
import Derived.Test.YtljickachmdejaaIterH
import Derived.Test.YtljickachmdejaaIterS
import Derived.Test.YtljickachmdejaaCompS
namespace Go.Proofs.Ytljickachmdejaa.E
open Go
set_option linter.unusedSimpArgs false
set_option linter.unusedVariables false
set_option linter.unusedSectionVars false
set_option maxRecDepth 20000
section
open _root_.Go.RowKit _root_.Go.Maps _root_.Go.Sort _root_.Go.Shelf
attribute [local go_sem] Oper.semAt_some
set_option maxRecDepth 100000 in
set_option maxHeartbeats 2000000 in
theorem vals1_none (F : Fence) (n : Nat) (hf : F.fn 35) (hro : F.round = none) (Bs o cap : Nat) (a : Option Addr) (w : World) (hB : Bs < w.heap.size)
    (hBs : w.cell? ⟨Bs, o, none⟩ = some (.slice a 0 cap)) :
    SeqGivesB F n Try.prog 35 #[.pointer (some ⟨Bs, o, none⟩)] encStr (fun ss => ss = ([] : List (List UInt8))) 0 w := by
  intro l J W hW hJ hJB hY h0
  have hBsW : W.cell? ⟨Bs, o, none⟩ = some (.slice a 0 cap) := (hW.cell (p := ⟨Bs, o, none⟩) hB).trans hBs
  refine callsIn_of_wp Try.func35 rfl hf ?_ hro
  simp only [Try.ntmps35, List.size_toArray, List.length_cons, List.length_nil, Nat.reduceAdd, Nat.reduceSub, Array.replicate_succ, Array.replicate_zero, List.push_toArray, List.append_toArray, List.nil_append, List.cons_append]
  gi_wp2
  gi_loopw [7] (fun i wr => i = .int .i64 0 ∧ J [] wr)
    (fun i _ => 0)
  case atStart => exact ⟨rfl, h0⟩
  case round =>
    obtain ⟨rfl, hJs⟩ := hrel
    gi_wp2
    go_end0
    exact ⟨⟨_, rfl⟩, [], rfl, hJs⟩
theorem sortsS (m : Nat) : AnyZ.SortsIn Try.prog Try.sortedS_ren Fence.wide m :=
  ⟨fun blk off cap ss W hH hblk hsz => callsIn_wide.2 (Try.slices_Sort_string blk off cap ss W hH hblk hsz),
   fun p cap W => callsIn_wide.2 (Try.slices_Sort_string_none p cap W)⟩
set_option maxHeartbeats 2000000 in
theorem sortedH_ok (l : List ByteArray) (hl : l.length * 16 ≤ 140737488351232) : OkH Try.prog 25 [.func 35 [.rop [E.strs l]]] [] (.own (.e 0) 1 1 0 l.length) [(1, .row 9 1 none ((sortL l).map fun s => [S s]))] := by
  intro w c vs hi hv
  simp only [RelL] at hv
  obtain ⟨u, us, rfl, hu, rfl⟩ := hv
  simp only [RelV] at hu
  obtain ⟨us, rfl, hu⟩ := hu
  simp only [RelL] at hu
  obtain ⟨p, us, rfl, hp, rfl⟩ := hu
  simp only [RelV, RV, RVAt] at hp
  obtain ⟨B, o, rfl, hBS, ⟨sv, hBc, _, a, cap, rfl, hcap, _, hsv⟩, _⟩ := hp
  rw [List.length_map] at hBc hcap
  have hBlt : B < w.heap.size := (hBS.resolve_left (by simp)).1
  have key : ∃ ss0, ss0 = (l.map fun s => s.data.toList) ∧ SeqGivesB Fence.wide 2 Try.prog 35 #[.pointer (some ⟨B, o, none⟩)] encStr (fun ss => ss = ss0) l.length w := by
    refine ⟨_, rfl, ?_⟩
    rcases hsv with h0 | ⟨b, off, rfl, hS, hR⟩
    · obtain rfl : l = [] := List.map_eq_nil_iff.1 h0
      exact vals1_none Fence.wide 2 trivial rfl B o cap a w hBlt hBc
    · refine vals1_gives Fence.wide 2 trivial rfl (by omega) B o b off cap l (by omega) w hBlt hS.1 hBc fun j z hz => ?_
      have h1 := hR.get j [S z] (by rw [List.getElem?_map, hz]; rfl)
      obtain ⟨u, hu, _, hr⟩ := h1.2.get 0 (S z) rfl
      simp only [RV] at hr
      obtain ⟨rfl, _⟩ := hr
      rw [Nat.mul_one, Nat.add_zero] at hu
      exact hu
  obtain ⟨ss0, hss, hseq⟩ := key
  have hsl : ss0.length = l.length := by rw [hss, List.length_map]
  have cS := sortedH (ρ := Try.sortedS_ren) Try.sortedS Fence.wide 5 trivial trivial trivial trivial rfl (by omega) (sortsS _) (enters_of Try.func34 (by kernel_rfl) rfl) 35 #[.pointer (some ⟨B, o, none⟩)] trivial (enters_of Try.func35 (by kernel_rfl) rfl) _ l.length (by simp only [maxLen]; omega) (by omega) w (fun ss e => by rw [e, hsl]; exact Nat.le_refl _) hseq
  have cC := (callsIn_wide (n := 5)).1 cS
  refine cC.mono ?_
  rintro e w' ⟨v, ss, rfl, rfl, hrow, hnil, hone, hbel⟩
  have he : Ext w c w' c := ⟨hbel.os, hbel.tape, hbel.output, hbel.size, fun b hb hn => ⟨hbel.block b hb, hn⟩, rfl, fun s => .inr ⟨rfl, rfl, id⟩⟩
  have hcur : c.cur (.e 0) = 0 := hi.cur (.e 0)
  rcases hrow.2 with ⟨rfl, hz⟩ | ⟨gb, cap', cur, rfl, hbase, hgb, r1, r2, r3, r4⟩
  · obtain rfl : l = [] := List.eq_nil_of_length_eq_zero (by omega)
    obtain ⟨x1, x2⟩ := hi.lay (.e 0) none (.row 9 1 none []) he (fun b hb => hbel.block b (hi.lt b hb)) (fun b cp e => by cases e) (by
      simp only [BlkOk]
      refine ⟨cx_lay_lv _ _ _, by omega, by simp, ?_⟩
      rw [cx_lay_loc]
      exact ⟨trivial, .inl trivial⟩)
    have e : sortL [] = [] := List.eq_nil_of_length_eq_zero (sortL_len [])
    rw [e]
    refine ⟨_, _, rfl, x1, x2, ?_⟩
    simp only [RelV, cx_lay_cur, hcur]
    refine ⟨by omega, fun _ => ?_⟩
    rw [cx_lay_loc]
    exact ⟨trivial, rfl, trivial⟩
  · have hM : (ss.mergeSort fun x y => decide (x ≤ y)).map encStr = (sortL l).map Value.string := by
      unfold sortL
      rw [← hss, List.map_map]
      rfl
    obtain ⟨x1, x2⟩ := hi.lay (.e 0) (some (gb, cap')) (.row 9 1 none ((sortL l).map fun s => [S s])) he (fun b hb => hbel.block b (hi.lt b hb)) (fun b cp e => by cases e; exact ⟨hbase, (Array.getElem?_eq_some_iff.1 hgb).1⟩) (by
      simp only [BlkOk]
      refine ⟨cx_lay_lv _ _ _, by omega, fun r hr => by obtain ⟨y, _, rfl⟩ := List.mem_map.1 hr; rfl, ?_⟩
      rw [cx_lay_loc]
      refine ⟨.inl trivial, r2, (sortL l).map Value.string, cur.toList.drop ss.length, ?_, ?_, ?_, ?_⟩
      · rw [← hM, ← r4, Nat.mul_one, List.take_append_drop, Array.toArray_toList]
        exact hgb
      · rw [← hM, ← r4, Nat.mul_one, List.take_append_drop, Array.length_toList, r3]
      · rw [← hM, ← r4, Nat.mul_one, List.take_append_drop]
        exact hone gb _ _ cur rfl hgb
      · rw [flat_one]; exact strs_rvl _)
    refine ⟨_, _, rfl, x1, x2, ?_⟩
    have := rel_own_new (w' := w') hi (.e 0) gb 1 ss.length cap' r1
    rw [hsl] at this
    rw [hsl]
    exact this
end
theorem valsS_ok (l : List ByteArray) : Ok Try.prog 26 [E.strs l] (.func 35 [.rop [E.strs l]]) := by
  refine Ok.of_wp (rs := [.tmp 2]) (n := 4) Try.func26 rfl rfl rfl (by simp) fo (by kernel_rfl) ?_
  simp (decide := true) (maxSteps := 4000000) -implicitDefEqProofs only [evs, tabs, puts, siteD, gget, tget, tset, initT, dstAt, ev, evC, plain, Hp.get, Hp.set, bnd, isCells, isRow, SubA, SubC, Sub, SubL, CvA, Cv, dis, ordB, ite_self, exists_eq', List.mem_cons, List.not_mem_nil, Site.m.injEq, bne_self_eq_false, beq_iff_eq, bne_iff_ne, ↓reduceIte, Int.reduceAdd, Int.reduceSub, Int.reduceToNat, Int.reduceNeg, Nat.reduceAdd, Nat.reduceMul, Nat.reduceSub, exists_eq_left', exists_eq_left, implies_true, forall_const, Site.l.injEq, Site.e.injEq, reduceCtorEq, beq_self_eq_true, ne_eq]
end Go.Proofs.Ytljickachmdejaa.E
