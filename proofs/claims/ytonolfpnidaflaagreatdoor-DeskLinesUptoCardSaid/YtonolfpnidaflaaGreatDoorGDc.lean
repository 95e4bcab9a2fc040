/- Several texts in one: DeskS DeskT DeskE DeskN DeskM DeskO DeskL. No conditions. -/
import Derived.Test.YtonolfpnidaflaaGreatDoorEngineE
import Derived.Test.YtonolfpnidaflaaGreatDoorGSt
import Derived.Shelf.Strings.Builder1
import Derived.Test.YtonolfpnidaflaaGreatDoorShelf
import Derived.Test.YtonolfpnidaflaaGreatDoorGTx
import Derived.Test.YtonolfpnidaflaaGreatDoorGDa
import Derived.Test.YtonolfpnidaflaaGreatDoorGDb
namespace Go.Proofs.YtonolfpnidaflaaGreatDoor.E
open Go Go.RowKit
set_option linter.unusedSimpArgs false
set_option linter.unusedVariables false
set_option linter.unusedSectionVars false
set_option maxRecDepth 20000
set_option maxHeartbeats 2000000
set_option maxRecDepth 100000
theorem cc_used (b : Nat) (w : World) (h0 : w.cell? ⟨b, 0, none⟩ = some (.pointer (some ⟨b, 0, none⟩))) :
  Calls Tryz.prog 97 #[.pointer (some ⟨b, 0, none⟩)] w fun e w' => e = .returned (.tuple #[]) ∧ w' = w := by
 obtain ⟨j, hj, _⟩ := Option.map_eq_some_iff.1 (show (Tryz.prog.info? 114).map (·.size) = some 2 by kernel_rfl)
 have tp : Tryz.prog.underlying 111 = some (.pointer 114) := by kernel_rfl
 go_enter Tryz.func97, Tryz.ntmps97
 go_wp2
 rw [Lib.run_neq_ptr_same w _ tp hj]
 go_wp2
 go_end0
 exact ⟨rfl, rfl⟩
theorem cc_fresh (b : Nat) (w : World) (h0 : w.cell? ⟨b, 0, none⟩ = some (.pointer none)) (hsh : w.shape? b = some (114, 2)) (hfz : w.frozen? ⟨b, 0, none⟩ = false) :
  Calls Tryz.prog 97 #[.pointer (some ⟨b, 0, none⟩)] w fun e w' => e = .returned (.tuple #[]) ∧ w' = w.setCell ⟨b, 0, none⟩ (.pointer (some ⟨b, 0, none⟩)) := by
 obtain ⟨j, hj, hjs⟩ := Option.map_eq_some_iff.1 (show (Tryz.prog.info? 114).map (·.size) = some 2 by kernel_rfl)
 have tp : Tryz.prog.underlying 111 = some (.pointer 114) := by kernel_rfl
 have tu : Tryz.prog.underlying 185 = some .unsafePointer := by kernel_rfl
 go_enter Tryz.func97, Tryz.ntmps97
 go_wp2
 rw [Lib.run_to_unsafe w ⟨b, 0, none⟩ tp tu hj (by rw [hjs]; decide) hsh (Nat.zero_lt_succ 1)]
 simp only [Result.andThen]
 rw [Oper.upon_value]
 go_wp2
 rw [run_callFunc_extern Tryz.func122 (by kernel_rfl) (by kernel_rfl) (by kernel_rfl) (e := Extern.AbiNoEscape.same) (by kernel_rfl)]
 rw [Lib.run_noEscape]
 simp only [Result.andThen]
 rw [Oper.upon_value]
 go_wp2
 rw [Lib.run_from_unsafe w ⟨b, 0, none⟩ tu tp hj hsh (by kernel_rfl)]
 simp only [Result.andThen]
 rw [Oper.upon_value]
 go_wp2
 go_end0
 exact ⟨rfl, rfl⟩

abbrev byR (l : List UInt8) : List (List AV) := l.map fun b => [.val (.int .u8 b.toNat)]
abbrev bdH (p : AV) (l : List UInt8) : List Blk := [.cells 114 [p, .own (.e 1) 0 1 0 l.length], .row 5 1 none (byR l)]
abbrev bdV (v : Nat) (l : List UInt8) : List (Nat × Blk) := [(0, .cells 114 [.ptr (.e 0) 0 0, .own (.e 1) v 1 0 l.length]), (v, .row 5 1 none (byR l))]
theorem size_len' (s : ByteArray) : s.data.toList.length = s.size := by rw [Array.length_toList]; rfl
/-- A builder that is new, or used. -/
def bdP (p : AV) : Prop := p = .val (.pointer none) ∨ p = .ptr (.e 0) 0 0
theorem bdCheck_ok {p : AV} (hp : bdP p) (l : List UInt8) : OkH Tryz.prog 97 [.ptr (.e 0) 0 0] (bdH p l) (.tup []) (bdV 0 l) := by
 intro w c vs hi hx
 obtain ⟨c0, l0, b, cp, us, hloc, hheap, hone, hrel⟩ := hi.cells (s := .e 0) (n := 0) (t := 114) (cs := [p, .own (.e 1) 0 1 0 l.length]) (by simp [hpE, Hp.get])
 have hv : vs = [.pointer (some ⟨b, 0, none⟩)] := by
  simp only [RelL, RelV] at hx
  obtain ⟨u, us', rfl, ⟨_, h⟩, rfl⟩ := hx
  obtain ⟨b', cp', e1, rfl⟩ := h c0.symm
  rw [hloc] at e1
  cases e1
  rfl
 subst hv
 simp only [RelL] at hrel
 obtain ⟨u0, r0, rfl, hu0, u1, r1, rfl, hu1, rfl⟩ := hrel
 have hlive : c.live b := Cx.live_loc l0 hloc
 have hself : RelV w c (.ptr (.e 0) 0 0) (.pointer (some ⟨b, 0, none⟩)) := by
  simp only [RelV]
  exact ⟨by rw [c0]; exact Nat.le_refl _, fun _ => ⟨b, cp, hloc, rfl⟩⟩
 rcases hp with rfl | rfl
 ·simp only [RelV] at hu0
  obtain ⟨rfl, _⟩ := hu0
  have h0 : w.cell? ⟨b, 0, none⟩ = some (.pointer none) := by rw [Lib.cell_of_heap hheap]; rfl
  refine (cc_fresh b w h0 (by simp [World.shape?, hheap]) (Lib.frozen_of_heap hheap 0)).mono ?_
  rintro e w' ⟨rfl, rfl⟩
  have hu : Upd w b (.cells #[.pointer (some ⟨b, 0, none⟩), u1] 114 (0, 0)) (w.setCell ⟨b, 0, none⟩ (.pointer (some ⟨b, 0, none⟩))) := ⟨rfl, rfl, rfl, by simp [World.setCell], by simp [World.setCell, Array.getElem?_modify, hheap], fun k hk => by
   show (w.heap.modify b _)[k]? = _
   rw [Array.getElem?_modify, if_neg (fun e => hk e.symm)]⟩
  have he := hu.ext hlive
  refine ⟨.tuple #[], c, rfl, he, ?_, by simp only [RelV, RelL]; exact ⟨[], rfl, rfl⟩⟩
  have hk : BlkOk (w.setCell ⟨b, 0, none⟩ (.pointer (some ⟨b, 0, none⟩))) c (.e 0) (.cells 114 [.ptr (.e 0) 0 0, .own (.e 1) 0 1 0 l.length]) := by
   simp only [BlkOk]
   refine ⟨l0, b, cp, [.pointer (some ⟨b, 0, none⟩), u1], hloc, hu.here, ?_, ?_⟩
   ·intro u hu
    simp only [List.mem_cons, List.not_mem_nil, or_false] at hu
    rcases hu with rfl | rfl
    ·rfl
    ·exact hone _ (by simp)
   ·simp only [RelL]
    exact ⟨_, _, rfl, RelV.ext he _ _ hself, _, _, rfl, RelV.ext he _ _ hu1, rfl⟩
  refine (hi.put l0 hloc hu hk).eqv fun s => ?_
  rw [Hp.get_set]
  by_cases h : (.e 0 : Site) = s
  ·subst h; simp [hpE, Hp.get]
  ·rw [if_neg h]
   simp [hpE, Hp.get, h]
 ·have eu : u0 = .pointer (some ⟨b, 0, none⟩) := by
   simp only [RelV] at hu0
   obtain ⟨b', cp', e1, rfl⟩ := hu0.2 c0.symm
   rw [hloc] at e1
   cases e1
   rfl
  subst eu
  have h0 : w.cell? ⟨b, 0, none⟩ = some (.pointer (some ⟨b, 0, none⟩)) := by rw [Lib.cell_of_heap hheap]; rfl
  refine (cc_used b w h0).mono ?_
  rintro e w' ⟨rfl, rfl⟩
  exact ⟨.tuple #[], c, rfl, Ext.refl _ _, hi, by simp only [RelV, RelL]; exact ⟨[], rfl, rfl⟩⟩
theorem byR_take (l : List UInt8) : List.take l.length (byR l) = byR l := List.take_of_length_le (by simp [byR])
theorem bdWrite_ok {p : AV} (hp : bdP p) (l : List UInt8) (s : ByteArray) (hl : l.length + s.size ≤ 1000000000000) : OkH Tryz.prog 55 [.ptr (.e 0) 0 0, S s] (bdH p l) (.tup [I s.size, .val .nilIface]) (bdV 1 (l ++ s.data.toList)) := by
 have hz := size_len' s
 have hc := bdCheck_ok hp l
 rcases hp with rfl | rfl
 all_goals
  refine OkH.of_wp (rs := [.tmp 4, .tmp 5]) (n := 19) [] Tryz.func55 rfl rfl rfl (by simp) fo (by kernel_rfl) ?_
  simp +decide -implicitDefEqProofs only [S0, simprocAttr]
  refine callH hc [.e 0, .e 1] ?_
  simp +decide -implicitDefEqProofs only [S0, simprocAttr, Option.getD_some, byR_take]
  exact ⟨by omega, [], by simp [byR]⟩
theorem bdByte_ok (l : List UInt8) (hl : l.length ≤ 1000000000000) : OkH Tryz.prog 57 [.ptr (.e 0) 0 0, .val (.int .u8 10)] (bdH (.ptr (.e 0) 0 0) l) (.val .nilIface) (bdV 1 (l ++ [10])) := by
 refine OkH.of_wp (rs := [.tmp 4]) (n := 17) [] Tryz.func57 rfl rfl rfl (by simp) fo (by kernel_rfl) ?_
 simp +decide -implicitDefEqProofs only [S0, simprocAttr]
 refine callH (bdCheck_ok (.inr rfl) l) [.e 0, .e 1] ?_
 simp +decide -implicitDefEqProofs only [S0, simprocAttr, Option.getD_some, byR_take]
 exact ⟨by omega, [], by simp [byR]⟩
end Go.Proofs.YtonolfpnidaflaaGreatDoor.E

namespace Go.Proofs
open Go Go.Shelf Go.RowKit
set_option linter.unusedSimpArgs false
set_option linter.unusedVariables false
set_option linter.unusedSectionVars false
set_option maxRecDepth 20000
variable {P : Program} {ρ : Ren}
set_option maxHeartbeats 2000000
set_option maxRecDepth 100000
theorem Any.bdString_x (L : Lays.n169 P ρ) (X : Builder.Extra P ρ) (b g cap : Nat) (p : Value) (cur : Array Value) (l : List UInt8) (w : World) (hbk : w.heap[b]? = some (.cells #[p, .slice (some ⟨g, 0, none⟩) l.length cap] (ρ.t 72) (0, 0))) (h0 : l ≠ [])
  (hg : w.heap[g]? = some (.cells cur (ρ.t 5) (0, 0))) (hnc : l.length ≤ cap) (hcm : cap ≤ maxLen) (hcs : cur.size = cap) (hcell : ∀ (j : Nat) x, l[j]? = some x → w.cell? ⟨g, j, none⟩ = some (.int .u8 x.toNat)) :
  Calls P (ρ.f 169) #[.pointer (some ⟨b, 0, none⟩)] w fun e w' => e = .returned (.string ⟨l.toArray⟩) ∧ w' = w.drew.freeze ⟨g, 0, none⟩ l.length := by
 have hl0 : l.length ≠ 0 := by simpa using h0
 have c1 : w.drew.cell? ⟨b, 1, none⟩ = some (.slice (some ⟨g, 0, none⟩) l.length cap) := by
  have : w.drew.heap[b]? = some (.cells #[p, .slice (some ⟨g, 0, none⟩) l.length cap] (ρ.t 72) (0, 0)) := hbk
  rw [Lib.cell_of_heap this]; rfl
 have hSD : (Builtin.unsafeSliceData_ #[(ρ.t 37)] (ρ.t 127) #[.slice (some ⟨g, 0, none⟩) l.length cap]).run P w.drew = .ok (.pointer (some ⟨g, 0, none⟩)) w.drew :=
  Lib.run_unsafeSliceData_row _ _ _ _ _ _ (by omega)
 have hUS : (Builtin.unsafeString_ #[(ρ.t 127), (ρ.t 3)] (ρ.t 9) #[.pointer (some ⟨g, 0, none⟩), .int .i64 l.length]).run P w.drew = .ok (.string ⟨l.toArray⟩) (w.drew.freeze ⟨g, 0, none⟩ l.length) := by
  refine Lib.run_unsafeString_row w.drew (ρ.t 127) (ρ.t 3) (ρ.t 9) (ρ.t 5) L.t127 X.cellsByte g cur.size (by have hg' : w.drew.heap[g]? = some (.cells cur (ρ.t 5) (0, 0)) := hg; simp [World.shape?, hg']) l h0 (by omega) (by unfold maxLen at hcm; omega) ?_
  intro j x hx
  have := hcell j x hx
  simp only [Addr.add_lit, Nat.zero_add]
  exact this
 have mixed := L.mixed
 have t72 := L.t72; have a72 := L.a72; have z72 := L.z72; have v72 := L.v72; have u72 := run_underlying L.t72
 have t70 := L.t70; have a70 := L.a70; have z70 := L.z70; have v70 := L.v70; have u70 := run_underlying L.t70
 have t37 := L.t37; have a37 := L.a37; have z37 := L.z37; have v37 := L.v37; have u37 := run_underlying L.t37
 have t127 := L.t127; have a127 := L.a127; have z127 := L.z127; have v127 := L.v127; have u127 := run_underlying L.t127
 have t3 := L.t3; have a3 := L.a3; have z3 := L.z3; have v3 := L.v3; have u3 := run_underlying L.t3
 have t9 := L.t9; have a9 := L.a9; have z9 := L.z9; have v9 := L.v9; have u9 := run_underlying L.t9
 have t5 := X.t5; have a5 := X.a5; have z5 := X.z5; have v5 := X.v5; have u5 := run_underlying X.t5
 go_enter L.f169, Body.n169_ntmps ρ
 go_wp2
 go_region_o
 all_goals (go_wp2; go_ret; exact ⟨rfl, rfl⟩)
theorem Any.bdString_n (L : Lays.n169 P ρ) (X : Builder.Extra P ρ) (b : Nat) (p : Value) (w : World) (hbk : w.heap[b]? = some (.cells #[p, .slice none 0 0] (ρ.t 72) (0, 0))) :
  Calls P (ρ.f 169) #[.pointer (some ⟨b, 0, none⟩)] w fun e w' => e = .returned (.string ⟨#[]⟩) ∧ w' = w.drew := by
 have hUS := Any.unsafeString_none L X
 have c1 : w.drew.cell? ⟨b, 1, none⟩ = some (.slice none 0 0) := by
  have : w.drew.heap[b]? = some (.cells #[p, .slice none 0 0] (ρ.t 72) (0, 0)) := hbk
  rw [Lib.cell_of_heap this]; rfl
 have hSD : (Builtin.unsafeSliceData_ #[(ρ.t 37)] (ρ.t 127) #[.slice none 0 0]).run P w.drew = .ok (.pointer none) w.drew := rfl
 have mixed := L.mixed
 have t72 := L.t72; have a72 := L.a72; have z72 := L.z72; have v72 := L.v72; have u72 := run_underlying L.t72
 have t70 := L.t70; have a70 := L.a70; have z70 := L.z70; have v70 := L.v70; have u70 := run_underlying L.t70
 have t37 := L.t37; have a37 := L.a37; have z37 := L.z37; have v37 := L.v37; have u37 := run_underlying L.t37
 have t127 := L.t127; have a127 := L.a127; have z127 := L.z127; have v127 := L.v127; have u127 := run_underlying L.t127
 have t3 := L.t3; have a3 := L.a3; have z3 := L.z3; have v3 := L.v3; have u3 := run_underlying L.t3
 have t9 := L.t9; have a9 := L.a9; have z9 := L.z9; have v9 := L.v9; have u9 := run_underlying L.t9
 have t5 := X.t5; have a5 := X.a5; have z5 := X.z5; have v5 := X.v5; have u5 := run_underlying X.t5
 go_enter L.f169, Body.n169_ntmps ρ
 go_wp2
 go_region_o
 all_goals (go_wp2; go_ret; exact ⟨rfl, rfl⟩)
theorem Any.bdString_z (L : Lays.n169 P ρ) (X : Builder.Extra P ρ) (b g : Nat) (p : Value) (cur : Array Value) (w : World) (hbk : w.heap[b]? = some (.cells #[p, .slice (some ⟨g, 0, none⟩) 0 0] (ρ.t 72) (0, 0))) (hg : w.heap[g]? = some (.cells cur (ρ.t 5) (0, 0))) :
  Calls P (ρ.f 169) #[.pointer (some ⟨b, 0, none⟩)] w fun e w' => e = .returned (.string ⟨#[]⟩) ∧ w' = (w.alloc (.view ⟨g, 0, none⟩ (ρ.t 5))).drew := by
 have hUS := Any.unsafeString_none L X
 have hlt : b < w.heap.size := by
  rcases Nat.lt_or_ge b w.heap.size with h' | h'
  ·exact h'
  ·simp [Array.getElem?_eq_none h'] at hbk
 have c1 : w.drew.cell? ⟨b, 1, none⟩ = some (.slice (some ⟨g, 0, none⟩) 0 0) := by
  have : w.drew.heap[b]? = some (.cells #[p, .slice (some ⟨g, 0, none⟩) 0 0] (ρ.t 72) (0, 0)) := hbk
  rw [Lib.cell_of_heap this]; rfl
 have hSD : (Builtin.unsafeSliceData_ #[(ρ.t 37)] (ρ.t 127) #[.slice (some ⟨g, 0, none⟩) 0 0]).run P w.drew = .ok (.pointer (some ⟨w.drew.heap.size, 0, none⟩)) (w.drew.alloc (.view ⟨g, 0, none⟩ (ρ.t 5))) :=
  Lib.run_unsafeSliceData_zero w.drew _ _ (ρ.t 5) L.t127 ⟨g, 0, none⟩ 0 ((ρ.t 5), cur.size) (by have hg' : w.drew.heap[g]? = some (.cells cur (ρ.t 5) (0, 0)) := hg; simp [World.shape?, hg'])
 have c2 : (w.drew.alloc (.view ⟨g, 0, none⟩ (ρ.t 5))).cell? ⟨b, 1, none⟩ = some (.slice (some ⟨g, 0, none⟩) 0 0) := by
  have : (w.drew.alloc (.view ⟨g, 0, none⟩ (ρ.t 5))).heap[b]? = _ := (Lib.alloc_old w.drew _ b hlt).trans hbk
  rw [Lib.cell_of_heap this]; rfl
 have c3 : (w.alloc (.view ⟨g, 0, none⟩ (ρ.t 5))).drew.cell? ⟨b, 1, none⟩ = some (.slice (some ⟨g, 0, none⟩) 0 0) := c2
 have c0 : w.cell? ⟨b, 1, none⟩ = some (.slice (some ⟨g, 0, none⟩) 0 0) := c1
 have mixed := L.mixed
 have t72 := L.t72; have a72 := L.a72; have z72 := L.z72; have v72 := L.v72; have u72 := run_underlying L.t72
 have t70 := L.t70; have a70 := L.a70; have z70 := L.z70; have v70 := L.v70; have u70 := run_underlying L.t70
 have t37 := L.t37; have a37 := L.a37; have z37 := L.z37; have v37 := L.v37; have u37 := run_underlying L.t37
 have t127 := L.t127; have a127 := L.a127; have z127 := L.z127; have v127 := L.v127; have u127 := run_underlying L.t127
 have t3 := L.t3; have a3 := L.a3; have z3 := L.z3; have v3 := L.v3; have u3 := run_underlying L.t3
 have t9 := L.t9; have a9 := L.a9; have z9 := L.z9; have v9 := L.v9; have u9 := run_underlying L.t9
 have t5 := X.t5; have a5 := X.a5; have z5 := X.z5; have v5 := X.v5; have u5 := run_underlying X.t5
 go_enter L.f169, Body.n169_ntmps ρ
 go_wp2
 go_region_o
 all_goals (go_wp2; go_ret; exact ⟨rfl, rfl⟩)
theorem Any.bdString_r (L : Lays.n169 P ρ) (X : Builder.Extra P ρ) (b g cap : Nat) (p : Value) (w : World) (hc0 : cap ≠ 0) (hbk : w.heap[b]? = some (.cells #[p, .slice (some ⟨g, 0, none⟩) 0 cap] (ρ.t 72) (0, 0))) :
  Calls P (ρ.f 169) #[.pointer (some ⟨b, 0, none⟩)] w fun e w' => e = .returned (.string ⟨#[]⟩) ∧ w' = w.drew := by
 have hUS := Any.unsafeString_none L X
 have c1 : w.drew.cell? ⟨b, 1, none⟩ = some (.slice (some ⟨g, 0, none⟩) 0 cap) := by
  have : w.drew.heap[b]? = some (.cells #[p, .slice (some ⟨g, 0, none⟩) 0 cap] (ρ.t 72) (0, 0)) := hbk
  rw [Lib.cell_of_heap this]; rfl
 have hSD : (Builtin.unsafeSliceData_ #[(ρ.t 37)] (ρ.t 127) #[.slice (some ⟨g, 0, none⟩) 0 cap]).run P w.drew = .ok (.pointer (some ⟨g, 0, none⟩)) w.drew :=
  Lib.run_unsafeSliceData_row _ _ _ _ _ _ hc0
 clear hc0
 have mixed := L.mixed
 have t72 := L.t72; have a72 := L.a72; have z72 := L.z72; have v72 := L.v72; have u72 := run_underlying L.t72
 have t70 := L.t70; have a70 := L.a70; have z70 := L.z70; have v70 := L.v70; have u70 := run_underlying L.t70
 have t37 := L.t37; have a37 := L.a37; have z37 := L.z37; have v37 := L.v37; have u37 := run_underlying L.t37
 have t127 := L.t127; have a127 := L.a127; have z127 := L.z127; have v127 := L.v127; have u127 := run_underlying L.t127
 have t3 := L.t3; have a3 := L.a3; have z3 := L.z3; have v3 := L.v3; have u3 := run_underlying L.t3
 have t9 := L.t9; have a9 := L.a9; have z9 := L.z9; have v9 := L.v9; have u9 := run_underlying L.t9
 have t5 := X.t5; have a5 := X.a5; have z5 := X.z5; have v5 := X.v5; have u5 := run_underlying X.t5
 go_enter L.f169, Body.n169_ntmps ρ
 go_wp2
 go_region_o
 all_goals (go_wp2; go_ret; exact ⟨rfl, rfl⟩)
end Go.Proofs
namespace Go.Proofs.YtonolfpnidaflaaGreatDoor.E
open Go Go.RowKit
set_option linter.unusedSimpArgs false
set_option linter.unusedVariables false
set_option linter.unusedSectionVars false
set_option maxRecDepth 20000
set_option maxHeartbeats 2000000
/-- All places are gone. -/
theorem none_left {w w' : World} {c : Cx} {a b : Blk} (hi : Inv w c (hpE 0 [(0, a), (0, b)])) (ho : w'.os = w.os) (ht : w'.tape = w.tape) (hu : w'.output = w.output) (hsz : w.heap.size ≤ w'.heap.size) (hb : ∀ b, b < w.heap.size → ¬ c.live b → w'.heap[b]? = w.heap[b]?) :
  ∃ c', Ext w c w' c' ∧ Inv w' c' (hpE 0 [(0, .gone), (0, .gone)]) := by
 let c' : Cx := { c with lv := fun _ => false }
 have hno : ∀ b, ¬ c'.live b := by rintro b ⟨s, h, _⟩; cases h
 have he : Ext w c w' c' := ⟨ho, ht, hu, hsz, fun b h1 h2 => ⟨hb b h1 h2, hno b⟩, rfl, fun s => .inr ⟨rfl, rfl, fun h => by cases h⟩⟩
 refine ⟨c', he, hi.glob.mono fun b hs => he.still b hs, fun s => ?_, fun s => ?_, fun s s' b h _ _ _ => (Bool.false_ne_true h).elim, fun b h => absurd h (hno b), fun b h => absurd h (hno b), fun b h => Nat.lt_of_lt_of_le (hi.farlt b h) hsz⟩
 ·have := hi.cur s
  show c.cur s = _
  rw [this]
  simp only [hpE, Hp.get]
  split
  ·rfl
  ·split <;> rfl
 ·have e : ((hpE 0 [(0, Blk.gone), (0, Blk.gone)]).get s).2 = .gone := by
   simp only [hpE, Hp.get]
   split
   ·rfl
   ·split <;> rfl
  rw [e]
  simp only [BlkOk]
  trivial
theorem byR_flat (l : List UInt8) : (byR l).flatten = l.map fun x => AV.val (.int .u8 x.toNat) := by
 induction l with
 | nil => rfl
 | cons x l ih => simp only [byR, List.map_cons, List.flatten_cons] at ih ⊢; rw [ih]; rfl
theorem bdString_ok {p : AV} (l : List UInt8) : OkH Tryz.prog 58 [.ptr (.e 0) 0 0] (bdH p l) (S (bs l)) [(0, .gone), (0, .gone)] := by
 intro w c vs hi hx
 obtain ⟨c0, l0, b, cp, us, hloc, hheap, hone, hrel⟩ := hi.cells (s := .e 0) (n := 0) (t := 114) (cs := [p, .own (.e 1) 0 1 0 l.length]) (by simp [hpE, Hp.get])
 have hv : vs = [.pointer (some ⟨b, 0, none⟩)] := by
  simp only [RelL, RelV] at hx
  obtain ⟨u, us', rfl, ⟨_, h⟩, rfl⟩ := hx
  obtain ⟨b', cp', e1, rfl⟩ := h c0.symm
  rw [hloc] at e1
  cases e1
  rfl
 subst hv
 simp only [RelL] at hrel
 obtain ⟨u0, r0, rfl, hu0, u1, r1, rfl, hu1, rfl⟩ := hrel
 obtain ⟨c1, l1, _, _, m⟩ := hi.row (s := .e 1) (n := 0) (k := 1) (t := 5) (q := none) (rows := byR l) (by simp [hpE, Hp.get])
 have hS : ∀ w', RelV w' c (S (bs l)) (.string ⟨l.toArray⟩) := fun w' => by simp only [RelV]; exact ⟨rfl, rfl⟩
 simp only [RelV] at hu1
 have hu1 := hu1.2 c1.symm
 rcases m with ⟨hn, hr, _⟩ | ⟨g, cp1, vs1, rest, hloc1, _, hcm, hg, hlen, _, hrel1⟩
 ·have hl0 : l = [] := by simpa [byR] using hr
  subst hl0
  rw [hn] at hu1
  obtain ⟨_, _, rfl⟩ := hu1
  refine (show Calls Tryz.prog 58 _ w _ from Any.bdString_n Tryz.lays169 Tryz.Builder_Extra_169 b u0 w hheap).mono ?_
  rintro e w' ⟨rfl, rfl⟩
  obtain ⟨c', he, hi'⟩ := none_left (w' := w.drew) hi rfl rfl rfl (Nat.le_refl _) (fun _ _ _ => rfl)
  exact ⟨_, c', rfl, he, hi', by simp only [RelV]; exact ⟨rfl, rfl⟩⟩
 ·rw [hloc1] at hu1
  obtain ⟨hle, a, rfl, ha⟩ := hu1
  have ea : a = ⟨g, 0, none⟩ := ha (.inr trivial)
  subst ea
  have hg1 : c.live g := Cx.live_loc l1 hloc1
  have hlen' : (vs1 ++ rest).length = cp1 := by rw [hlen, Nat.mul_one]
  have ev : vs1 = l.map fun x => Value.int .u8 x.toNat := by
   rw [byR_flat] at hrel1
   exact rvl_bytes_inv hrel1
  have fin : ∀ w' : World, w'.os = w.os → w'.tape = w.tape → w'.output = w.output → w.heap.size ≤ w'.heap.size → (∀ k, k < w.heap.size → k ≠ g → w'.heap[k]? = w.heap[k]?) → ∃ c', Ext w c w' c' ∧ Inv w' c' (hpE 0 [(0, .gone), (0, .gone)]) := fun w' h1 h2 h3 h4 h5 => none_left hi h1 h2 h3 h4 fun k hk hn => h5 k hk fun e => hn (e ▸ hg1)
  by_cases hl0 : l = []
  ·subst hl0
   by_cases hc0 : cp1 = 0
   ·subst hc0
    refine (show Calls Tryz.prog 58 _ w _ from Any.bdString_z Tryz.lays169 Tryz.Builder_Extra_169 b g u0 _ w hheap hg).mono ?_
    rintro e w' ⟨rfl, rfl⟩
    obtain ⟨c', he, hi'⟩ := fin (w.alloc (.view ⟨g, 0, none⟩ 5)).drew rfl rfl rfl (by show w.heap.size ≤ (w.heap.push _).size; rw [Array.size_push]; omega) (fun k hk _ => Lib.alloc_old w _ k hk)
    exact ⟨_, c', rfl, he, hi', by simp only [RelV]; exact ⟨rfl, rfl⟩⟩
   ·refine (show Calls Tryz.prog 58 _ w _ from Any.bdString_r Tryz.lays169 Tryz.Builder_Extra_169 b g cp1 u0 w hc0 hheap).mono ?_
    rintro e w' ⟨rfl, rfl⟩
    obtain ⟨c', he, hi'⟩ := fin w.drew rfl rfl rfl (Nat.le_refl _) (fun _ _ _ => rfl)
    exact ⟨_, c', rfl, he, hi', by simp only [RelV]; exact ⟨rfl, rfl⟩⟩
  ·have hcell : ∀ (j : Nat) x, l[j]? = some x → w.cell? ⟨g, j, none⟩ = some (.int .u8 x.toNat) := fun j x hx => by
    rw [Lib.cell_of_heap hg]
    have hj : j < l.length := (List.getElem?_eq_some_iff.1 hx).1
    simp only [List.getElem?_toArray]
    rw [List.getElem?_append_left (by rw [ev, List.length_map]; exact hj), ev, List.getElem?_map, hx]
    rfl
   refine (show Calls Tryz.prog 58 _ w _ from Any.bdString_x Tryz.lays169 Tryz.Builder_Extra_169 b g cp1 u0 _ l w hheap hl0 hg (by omega) hcm (by simpa using hlen') hcell).mono ?_
   rintro e w' ⟨rfl, rfl⟩
   obtain ⟨c', he, hi'⟩ := fin (w.drew.freeze ⟨g, 0, none⟩ l.length) (by unfold World.freeze; split <;> rfl) (by unfold World.freeze; split <;> rfl) (by unfold World.freeze; split <;> rfl) (by unfold World.freeze; split; exact Nat.le_refl _; show w.heap.size ≤ (w.heap.modify g _).size; rw [Array.size_modify]; exact Nat.le_refl _) (fun k hk hn => by
    unfold World.freeze
    split
    ·rfl
    ·show (w.heap.modify g _)[k]? = _
     rw [Array.getElem?_modify, if_neg (fun e => hn e.symm)])
   exact ⟨_, c', rfl, he, hi', by simp only [RelV]; exact ⟨rfl, rfl⟩⟩
end Go.Proofs.YtonolfpnidaflaaGreatDoor.E

namespace Go.Proofs.YtonolfpnidaflaaGreatDoor.E
open Go Go.RowKit
set_option linter.unusedSimpArgs false
set_option linter.unusedVariables false
set_option linter.unusedSectionVars false
set_option maxRecDepth 20000
set_option maxHeartbeats 2000000
theorem ansC_idle (x : ByteArray) : OkI Tryz.prog 98 [.ptr (.e 0) 0 0] [.cells 9 [S x]] [(0, .cells 9 [S x])] := by
 intro w c vs hi hx
 have hx0 := hx
 simp only [RelL] at hx
 obtain ⟨u, us, rfl, hu, rfl⟩ := hx
 generalize hR : (fun (e : Ending) (u' : FrameMode) (w' : World) => ∃ c' v', e = .returned v' ∧ u' = .returning ∧ Ext w c w' c' ∧ Inv w' c' (hpE 0 [(0, .cells 9 [S x])])) = R
 refine callsD_of_wpS Tryz.func98 rfl fun c₀ cs hm => ?_
 have ec : c₀ = { c₀ with mode := .returning } := by cases c₀; simp only at hm; subst hm; rfl
 apply wpS_seq
 apply wpS_region
 simp [wpOpsS, go_sem, recoverD, hm, Tryz.ntmps98, Exit.thenS]
 subst hR
 refine wpS_end (rs := []) (r := .tup []) (hs := [.cells 9 [S x]]) (hs' := [(0, .cells 9 [S x])]) (tm := [(0, .ptr (.e 0) 0 0), (1, .val .nilIface)]) (n := 19) ec ?hrs fo ?hd hi ⟨?hz, ?hs, hi, ?hdf⟩ ?hw
 case hz => simp
 case hdf => rfl
 case hrs => rfl
 case hd => kernel_rfl
 case hs =>
  intro i
  match i with
  | 0 => simpa [tget] using hu
  | 1 => simp [tget, RelV, plain]
  | i + 2 => simp [tget, RelV]
 case hw =>
  simp +decide -implicitDefEqProofs only [S0, simprocAttr]
  exact ⟨[], by simp +decide -implicitDefEqProofs only [S0, simprocAttr]⟩
theorem ansC_catch (x : ByteArray) {e : Int} (he : inI e) : OkD Tryz.prog 98 [.ptr (.e 0) 0 0] [.cells 9 [S x]] (flt e) [(0, .cells 9 [S (bs (errL e))])] := by
 intro w c vs v hi hx hv
 simp only [RelL] at hx
 obtain ⟨u, us, rfl, hu, rfl⟩ := hx
 have hl := Lib.itoa_length_le e he.1 he.2
 generalize hR : (fun (e1 : Ending) (u' : FrameMode) (w' : World) => ∃ c' v', e1 = .returned v' ∧ u' = .panicking [{ v := v, recovered := true }] ∧ Ext w c w' c' ∧ Inv w' c' (hpE 0 [(0, .cells 9 [S (bs (errL e))])])) = R
 refine callsD_of_wpS Tryz.func98 rfl fun c₀ cs hm => ?_
 apply wpS_seq
 apply wpS_region
 simp [wpOpsS, go_sem, recoverD, hm, Tryz.ntmps98, Exit.thenS]
 subst hR
 have hs0 : Sim [] w c ⟨[(0, .ptr (.e 0) 0 0), (1, flt e)], hpE 0 [(0, .cells 9 [S x])], 19⟩ { tmps := #[u] ++ ((Array.replicate 18 undef).setIfInBounds 3 v).setIfInBounds 0 v, defers := [] } := by
  refine ⟨by simp, fun i => ?_, hi, rfl⟩
  match i with
  | 0 => simpa [tget] using hu
  | 1 => simpa [tget] using hv
  | i + 2 => simp [tget, RelV]
 have k6 : (⟨#[101, 114, 114, 111, 114, 32]⟩ : ByteArray).size = 6 := rfl
 refine wpS_of_wp (wp_seq (AWp_sound (K := fun e1 st => e1 = .normal ∧ st = ⟨[(0, .ptr (.e 0) 0 0), (1, flt e), (5, flt e), (6, B true)], hpE 0 [(0, .cells 9 [S x])], 19⟩) fo _ ?hd1 ?hw1 hs0 fun e1 st w1 c1 a1 k he1 s1 => ?_))
 case hd1 => rfl
 case hw1 => simp +decide -implicitDefEqProofs only [S0, simprocAttr]
 obtain ⟨rfl, rfl⟩ := k
 have h6 : RelV w1 c1 (B true) (a1.eval (.tmp 6)) := s1.ev (.tmp 6)
 simp only [RelV] at h6
 refine wp_cond_true h6.1 (wp_seq (wp_region_list ?_))
 unfold wpList
 rw [if_pos (by simp [Region.wanted])]
 refine .inl (Oper.wp_mono ?_ (AStep_sound (K := fun st => st = ⟨[(0, .ptr (.e 0) 0 0), (1, flt e), (5, flt e), (6, B true), (8, flt e)], hpE 0 [(0, .cells 9 [S x])], 19⟩) ?hw2 s1 _))
 case hw2 => simp +decide -implicitDefEqProofs only [S0, simprocAttr]
 rintro a2 w2 ⟨c2, st2, e2, s2, rfl⟩
 unfold wpList
 rw [if_pos (by simp [Region.wanted])]
 refine .inl ?_
 have h8 : RelV w2 c2 (flt e) (a2.eval (.tmp 8)) := s2.ev (.tmp 8)
 simp only [RelV] at h8
 obtain ⟨u8, e8, h8⟩ := h8
 have hex : ∀ {ty : TypeId} {pos : String} {aft : Array Edge}, (execOp a2.eval ⟨some 9, .typeAssert (.tmp 8) 20 160 true, ty, pos, aft, none⟩).run Tryz.prog w2 = .ok (.value (.tuple #[u8, .bool true])) w2 := by
  intro ty pos aft
  have hr := run_assert (P := Tryz.prog) (t := 160) (xt := 20) (u := u8) (w := w2) (by simp +decide -implicitDefEqProofs only [S0, simprocAttr])
  simp only [execOp, e8, Sem.run_bind, hr, Result.andThen_ok, Sem.run_pure]
 unfold Oper.wp
 rw [hex, Oper.upon_value]
 have s3 := s2.step (Ext.refl w2 c2) s2.inv (some 9) (x := .tup [.agg [I e], B true]) (v := .tuple #[u8, .bool true]) (by
  simp only [RelV, RelL]
  exact ⟨[u8, .bool true], rfl, _, _, rfl, h8, _, _, rfl, ⟨rfl, rfl⟩, rfl⟩)
 refine AOps_sound (K := fun st => AWp Tryz.prog _ (AEndX Tryz.prog [] (.tup []) [(0, .cells 9 [S (bs (errL e))])] 1) st) _ ?hw3 s3 fun st4 w4 c4 a4 k4 e4 s4 => wp_end (hs := [.cells 9 [S x]]) rfl rfl fo ?hd4 hi ((he1.trans e2.toW).trans e4.toW) s4 k4
 case hd4 => kernel_rfl
 case hw3 =>
  simp +decide -implicitDefEqProofs only [S0, simprocAttr]
  refine call_eq (Itoa_ok e he) ?_
  simp +decide -implicitDefEqProofs only [S0, simprocAttr, ba_size, bs_size, k6]
  exact ⟨by omega, [], by simp +decide -implicitDefEqProofs only [S0, simprocAttr]; try exact S_eq (ba_ext (by simp [ba_app, bs, errL]))⟩
end Go.Proofs.YtonolfpnidaflaaGreatDoor.E

namespace Go.Proofs.YtonolfpnidaflaaGreatDoor.E
open Go
set_option linter.unusedSimpArgs false
set_option linter.unusedVariables false
set_option linter.unusedSectionVars false
set_option maxRecDepth 20000
set_option maxHeartbeats 4000000
abbrev anT (l : List ByteArray) : List (Nat × AV) := [(0, .ptr (.e 0) 0 0), (1, strs l), (4, .ptr (.l 4) 1 0)]
abbrev anH (d : Dk) : Hp := hpE 0 ((dkH d []).map fun b => (0, b)) ++ [(.l 4, 1, .cells 9 [S ⟨#[]⟩])]
abbrev anS (d : Dk) (l : List ByteArray) : ASt := ⟨swT (swG (.e 100) (.l 4) 0 1 1 2) (anT l), swH (.e 100) (.l 4) 1 2 (anH d), 33⟩
theorem er_send (g : Gr) (i n : Int) : er (sendE g i n) := by unfold sendE er; repeat' split; all_goals omega
theorem er_ack (g : Gr) (i n : Int) : er (ackE g i n) := by unfold ackE er; repeat' split; all_goals omega
theorem er_tk (g : Gr) (i n : Nat) (l : List ByteArray) : er (tkE g i n l) := by unfold tkE er; repeat' split; all_goals omega
theorem an_askBad {d : Dk} {w : ByteArray} {l : List ByteArray} {e : Int} (hl : wdOk l) (hw : l[0]? = some w) (hA : asksD w l 1 = .bad e) (he : inI e) :
  OkH Tryz.prog 56 [.ptr (.e 0) 0 0, strs l] (dkH d []) (S (bs (errL e))) (dkV d 0 0 0 []) := by
 have h0 : (0 : Int) < l.length := by have := (List.getElem?_eq_some_iff.1 hw).1; omega
 have hasks := asks_run d (w := w) (i := 1) hl (by omega)
 rw [hA] at hasks
 simp only [rdRun, clV, clB, if_true] at hasks
 refine OkH.of_catch (st1 := anS d l) (rs := [.cell 4 9]) (n := 33) (q := 100) (v := 1) (g := 98) Tryz.func56 rfl rfl rfl (by simp) fo (by kernel_rfl) (by kernel_rfl) ?_ rfl ?_
 ·simp +decide -implicitDefEqProofs only [S0, simprocAttr, gfs]
  exact Less.swap (tm := anT l) (hp := anH d) (.e 100) (.l 4) 1 2 (by decide) rfl (by simp +decide -implicitDefEqProofs only [S0, simprocAttr, anH, hpE, List.map_cons, List.map_nil, List.cons_append, List.nil_append])
 simp +decide -implicitDefEqProofs only [S0, simprocAttr, X0, gfs, anS, anT, anH, hpE, swT, swH, swB, swG, List.map_cons, List.map_nil, List.cons_append, List.nil_append, h0, hw]
 refine .inr (pan hasks [.e 0, .e 1, .e 2, .e 3, .e 4, .e 5, .e 6, .e 7, .l 11] ?_)
 simp +decide -implicitDefEqProofs only [S0, simprocAttr, gfs]
 refine ⟨_, _, ansC_catch ⟨#[]⟩ he, ?_, ?_, ?_, [], ?_⟩
 all_goals simp +decide -implicitDefEqProofs only [S0, simprocAttr, gfs, Option.getD_some]
theorem an_othBad {d : Dk} {w : ByteArray} {l : List ByteArray} {e : Int} (hl : wdOk l) (hw : l[0]? = some w) (hA : asksD w l 1 = .none) (hO : othersD w l 1 = .bad e) (he : inI e) :
  OkH Tryz.prog 56 [.ptr (.e 0) 0 0, strs l] (dkH d []) (S (bs (errL e))) (dkV d 0 0 0 []) := by
 have h0 : (0 : Int) < l.length := by have := (List.getElem?_eq_some_iff.1 hw).1; omega
 have hasks := asks_run d (w := w) (i := 1) hl (by omega)
 rw [hA] at hasks
 simp only [rdRun, clV, clB, if_true] at hasks
 have hoth := others_run d (w := w) (i := 1) hl (by omega)
 rw [hO] at hoth
 simp only [rdRun, clV, clB, Bool.false_eq_true, if_false] at hoth
 refine OkH.of_catch (st1 := anS d l) (rs := [.cell 4 9]) (n := 33) (q := 100) (v := 1) (g := 98) Tryz.func56 rfl rfl rfl (by simp) fo (by kernel_rfl) (by kernel_rfl) ?_ rfl ?_
 ·simp +decide -implicitDefEqProofs only [S0, simprocAttr, gfs]
  exact Less.swap (tm := anT l) (hp := anH d) (.e 100) (.l 4) 1 2 (by decide) rfl (by simp +decide -implicitDefEqProofs only [S0, simprocAttr, anH, hpE, List.map_cons, List.map_nil, List.cons_append, List.nil_append])
 simp +decide -implicitDefEqProofs only [S0, simprocAttr, X0, gfs, anS, anT, anH, hpE, swT, swH, swB, swG, List.map_cons, List.map_nil, List.cons_append, List.nil_append, h0, hw]
 refine .inl (callH hasks [.e 0, .e 1, .e 2, .e 3, .e 4, .e 5, .e 6, .e 7, .l 11] ?_)
 simp +decide -implicitDefEqProofs only [S0, simprocAttr, X0, gfs, h0, hw]
 refine .inr (pan hoth [.e 0, .e 1, .e 2, .e 3, .e 4, .e 5, .e 6, .e 7, .l 11] ?_)
 simp +decide -implicitDefEqProofs only [S0, simprocAttr, gfs]
 refine ⟨_, _, ansC_catch ⟨#[]⟩ he, ?_, ?_, ?_, [], ?_⟩
 all_goals simp +decide -implicitDefEqProofs only [S0, simprocAttr, gfs, Option.getD_some]
theorem anOp_end {d : Dk} {w : ByteArray} {l : List ByteArray} {o : OpS} {j : Nat} (hl : wdOk l) (hw : l[0]? = some w) (hA : asksD w l 1 = .got (.op o) j) (hj : j ≠ l.length) :
  OkH Tryz.prog 56 [.ptr (.e 0) 0 0, strs l] (dkH d []) (S (bs (errL 10))) (dkV d 0 0 0 []) := by
 have h0 : (0 : Int) < l.length := by have := (List.getElem?_eq_some_iff.1 hw).1; omega
 have hasks := asks_run d (w := w) (i := 1) hl (by omega)
 rw [hA] at hasks
 simp only [rdRun, clV, clB, if_true] at hasks
 refine OkH.of_catch (st1 := anS d l) (rs := [.cell 4 9]) (n := 33) (q := 100) (v := 1) (g := 98) Tryz.func56 rfl rfl rfl (by simp) fo (by kernel_rfl) (by kernel_rfl) ?_ rfl ?_
 ·simp +decide -implicitDefEqProofs only [S0, simprocAttr, gfs]
  exact Less.swap (tm := anT l) (hp := anH d) (.e 100) (.l 4) 1 2 (by decide) rfl (by simp +decide -implicitDefEqProofs only [S0, simprocAttr, anH, hpE, List.map_cons, List.map_nil, List.cons_append, List.nil_append])
 simp +decide -implicitDefEqProofs only [S0, simprocAttr, X0, gfs, anS, anT, anH, hpE, swT, swH, swB, swG, List.map_cons, List.map_nil, List.cons_append, List.nil_append, h0, hw]
 refine .inl (callH hasks [.e 0, .e 1, .e 2, .e 3, .e 4, .e 5, .e 6, .e 7, .l 11, .l 18, .m 18 0] ?_)
 simp +decide -implicitDefEqProofs only [S0, simprocAttr, X0, gfs]
 refine .inr (pan (end_bad hj) [.l 11] ?_)
 simp +decide -implicitDefEqProofs only [S0, simprocAttr, gfs]
 refine ⟨_, _, ansC_catch ⟨#[]⟩ (e := 10) ⟨by decide, by decide⟩, ?_, ?_, ?_, [], ?_⟩
 all_goals simp +decide -implicitDefEqProofs only [S0, simprocAttr, gfs, Option.getD_some]
theorem anOp_ok {d : Dk} {w : ByteArray} {l : List ByteArray} {o : OpS} {s' : Sv} {vs : List Vn} {ids : List ByteArray} {ns : List Nt} (hl : wdOk l) (hw : l[0]? = some w) (hA : asksD w l 1 = .got (.op o) l.length) (hd : dkOk d) (ho : whoI o.who) (e : doS d.s o = (s', ⟨0, vs, ids, ns⟩)) :
  OkH Tryz.prog 56 [.ptr (.e 0) 0 0, strs l] (dkH d []) (S (bs (shownL ⟨0, vs, ids, ns⟩))) (dkV (doD d o).1 (doV d o) 0 (vD d.s o) []) := by
 have h0 : (0 : Int) < l.length := by have := (List.getElem?_eq_some_iff.1 hw).1; omega
 have hasks := asks_run d (w := w) (i := 1) hl (by omega)
 rw [hA] at hasks
 simp only [rdRun, clV, clB, if_true] at hasks
 refine OkH.of_catch (st1 := anS d l) (rs := [.cell 4 9]) (n := 33) (q := 100) (v := 1) (g := 98) Tryz.func56 rfl rfl rfl (by simp) fo (by kernel_rfl) (by kernel_rfl) ?_ rfl ?_
 ·simp +decide -implicitDefEqProofs only [S0, simprocAttr, gfs]
  exact Less.swap (tm := anT l) (hp := anH d) (.e 100) (.l 4) 1 2 (by decide) rfl (by simp +decide -implicitDefEqProofs only [S0, simprocAttr, anH, hpE, List.map_cons, List.map_nil, List.cons_append, List.nil_append])
 simp +decide -implicitDefEqProofs only [S0, simprocAttr, X0, gfs, anS, anT, anH, hpE, swT, swH, swB, swG, List.map_cons, List.map_nil, List.cons_append, List.nil_append, h0, hw]
 refine .inl (callH hasks [.e 0, .e 1, .e 2, .e 3, .e 4, .e 5, .e 6, .e 7, .l 11, .l 18, .m 18 0] ?_)
 simp +decide -implicitDefEqProofs only [S0, simprocAttr, X0, gfs]
 refine .inl (callH (end_ok (l := l)) [.l 11] ?_)
 simp +decide -implicitDefEqProofs only [S0, simprocAttr, X0, gfs]
 refine .inl (callH (clOp_ok hd ho e) [.e 0, .e 1, .e 2, .e 3, .e 4, .e 5, .e 6, .e 7, .l 18, .m 18 0] ?_)
 simp +decide -implicitDefEqProofs only [S0, simprocAttr, X0, gfs]
 refine ⟨trivial, _, _, ansC_idle (bs (shownL ⟨0, vs, ids, ns⟩)), ?_, ?_, [], ?_⟩
 all_goals simp +decide -implicitDefEqProofs only [S0, simprocAttr, gfs, Option.getD_some]
theorem anOp_bad {d : Dk} {w : ByteArray} {l : List ByteArray} {o : OpS} (hl : wdOk l) (hw : l[0]? = some w) (hA : asksD w l 1 = .got (.op o) l.length) (hd : dkOk d) (hc : (doS d.s o).2.code ≠ 0) :
  OkH Tryz.prog 56 [.ptr (.e 0) 0 0, strs l] (dkH d []) (S (bs (errL (doS d.s o).2.code))) (dkV (doD d o).1 0 0 (vD d.s o) []) := by
 have h0 : (0 : Int) < l.length := by have := (List.getElem?_eq_some_iff.1 hw).1; omega
 have hasks := asks_run d (w := w) (i := 1) hl (by omega)
 rw [hA] at hasks
 simp only [rdRun, clV, clB, if_true] at hasks
 refine OkH.of_catch (st1 := anS d l) (rs := [.cell 4 9]) (n := 33) (q := 100) (v := 1) (g := 98) Tryz.func56 rfl rfl rfl (by simp) fo (by kernel_rfl) (by kernel_rfl) ?_ rfl ?_
 ·simp +decide -implicitDefEqProofs only [S0, simprocAttr, gfs]
  exact Less.swap (tm := anT l) (hp := anH d) (.e 100) (.l 4) 1 2 (by decide) rfl (by simp +decide -implicitDefEqProofs only [S0, simprocAttr, anH, hpE, List.map_cons, List.map_nil, List.cons_append, List.nil_append])
 simp +decide -implicitDefEqProofs only [S0, simprocAttr, X0, gfs, anS, anT, anH, hpE, swT, swH, swB, swG, List.map_cons, List.map_nil, List.cons_append, List.nil_append, h0, hw]
 refine .inl (callH hasks [.e 0, .e 1, .e 2, .e 3, .e 4, .e 5, .e 6, .e 7, .l 11, .l 18, .m 18 0] ?_)
 simp +decide -implicitDefEqProofs only [S0, simprocAttr, X0, gfs]
 refine .inl (callH (end_ok (l := l)) [.l 11] ?_)
 simp +decide -implicitDefEqProofs only [S0, simprocAttr, X0, gfs]
 refine .inr (pan (clOp_bad hd hc) [.e 0, .e 1, .e 2, .e 3, .e 4, .e 5, .e 6, .e 7, .l 18, .m 18 0] ?_)
 simp +decide -implicitDefEqProofs only [S0, simprocAttr, gfs]
 refine ⟨_, _, ansC_catch ⟨#[]⟩ (er_I (er_do d.s o)), ?_, ?_, ?_, [], ?_⟩
 all_goals simp +decide -implicitDefEqProofs only [S0, simprocAttr, gfs, Option.getD_some]
theorem anRule_end {d : Dk} {w : ByteArray} {l : List ByteArray} {r : Rl} {j : Nat} (hl : wdOk l) (hw : l[0]? = some w) (hA : asksD w l 1 = .got (.rule r) j) (hj : j ≠ l.length) :
  OkH Tryz.prog 56 [.ptr (.e 0) 0 0, strs l] (dkH d []) (S (bs (errL 10))) (dkV d 0 0 0 []) := by
 have h0 : (0 : Int) < l.length := by have := (List.getElem?_eq_some_iff.1 hw).1; omega
 have hasks := asks_run d (w := w) (i := 1) hl (by omega)
 rw [hA] at hasks
 simp only [rdRun, clV, clB, if_true] at hasks
 refine OkH.of_catch (st1 := anS d l) (rs := [.cell 4 9]) (n := 33) (q := 100) (v := 1) (g := 98) Tryz.func56 rfl rfl rfl (by simp) fo (by kernel_rfl) (by kernel_rfl) ?_ rfl ?_
 ·simp +decide -implicitDefEqProofs only [S0, simprocAttr, gfs]
  exact Less.swap (tm := anT l) (hp := anH d) (.e 100) (.l 4) 1 2 (by decide) rfl (by simp +decide -implicitDefEqProofs only [S0, simprocAttr, anH, hpE, List.map_cons, List.map_nil, List.cons_append, List.nil_append])
 simp +decide -implicitDefEqProofs only [S0, simprocAttr, X0, gfs, anS, anT, anH, hpE, swT, swH, swB, swG, List.map_cons, List.map_nil, List.cons_append, List.nil_append, h0, hw]
 refine .inl (callH hasks [.e 0, .e 1, .e 2, .e 3, .e 4, .e 5, .e 6, .e 7, .l 11, .l 18, .m 18 0] ?_)
 simp +decide -implicitDefEqProofs only [S0, simprocAttr, X0, gfs]
 refine .inr (pan (end_bad hj) [.l 11] ?_)
 simp +decide -implicitDefEqProofs only [S0, simprocAttr, gfs]
 refine ⟨_, _, ansC_catch ⟨#[]⟩ (e := 10) ⟨by decide, by decide⟩, ?_, ?_, ?_, [], ?_⟩
 all_goals simp +decide -implicitDefEqProofs only [S0, simprocAttr, gfs, Option.getD_some]
theorem anRule_ok {d : Dk} {w : ByteArray} {l : List ByteArray} {r : Rl} {s' : Sv} {vs : List Vn} {ids : List ByteArray} {ns : List Nt} (hl : wdOk l) (hw : l[0]? = some w) (hA : asksD w l 1 = .got (.rule r) l.length) (hd : dkOk d) (e : doS d.s (rlO d r) = (s', ⟨0, vs, ids, ns⟩)) :
  OkH Tryz.prog 56 [.ptr (.e 0) 0 0, strs l] (dkH d []) (S (bs (shownL ⟨0, vs, ids, ns⟩))) (dkV { (doD d (rlO d r)).1 with rs := d.rs ++ [r] } (doV d (rlO d r)) 0 (vD d.s (rlO d r)) []) := by
 have h0 : (0 : Int) < l.length := by have := (List.getElem?_eq_some_iff.1 hw).1; omega
 have hasks := asks_run d (w := w) (i := 1) hl (by omega)
 rw [hA] at hasks
 simp only [rdRun, clV, clB, if_true] at hasks
 refine OkH.of_catch (st1 := anS d l) (rs := [.cell 4 9]) (n := 33) (q := 100) (v := 1) (g := 98) Tryz.func56 rfl rfl rfl (by simp) fo (by kernel_rfl) (by kernel_rfl) ?_ rfl ?_
 ·simp +decide -implicitDefEqProofs only [S0, simprocAttr, gfs]
  exact Less.swap (tm := anT l) (hp := anH d) (.e 100) (.l 4) 1 2 (by decide) rfl (by simp +decide -implicitDefEqProofs only [S0, simprocAttr, anH, hpE, List.map_cons, List.map_nil, List.cons_append, List.nil_append])
 simp +decide -implicitDefEqProofs only [S0, simprocAttr, X0, gfs, anS, anT, anH, hpE, swT, swH, swB, swG, List.map_cons, List.map_nil, List.cons_append, List.nil_append, h0, hw]
 refine .inl (callH hasks [.e 0, .e 1, .e 2, .e 3, .e 4, .e 5, .e 6, .e 7, .l 11, .l 18, .m 18 0] ?_)
 simp +decide -implicitDefEqProofs only [S0, simprocAttr, X0, gfs]
 refine .inl (callH (end_ok (l := l)) [.l 11] ?_)
 simp +decide -implicitDefEqProofs only [S0, simprocAttr, X0, gfs]
 refine .inl (callH (clRule_ok hd e) [.e 0, .e 1, .e 2, .e 3, .e 4, .e 5, .e 6, .e 7, .l 18, .m 18 0] ?_)
 simp +decide -implicitDefEqProofs only [S0, simprocAttr, X0, gfs]
 refine ⟨trivial, _, _, ansC_idle (bs (shownL ⟨0, vs, ids, ns⟩)), ?_, ?_, [], ?_⟩
 all_goals simp +decide -implicitDefEqProofs only [S0, simprocAttr, gfs, Option.getD_some]
theorem anRule_bad {d : Dk} {w : ByteArray} {l : List ByteArray} {r : Rl} (hl : wdOk l) (hw : l[0]? = some w) (hA : asksD w l 1 = .got (.rule r) l.length) (hd : dkOk d) (hc : (doS d.s (rlO d r)).2.code ≠ 0) :
  OkH Tryz.prog 56 [.ptr (.e 0) 0 0, strs l] (dkH d []) (S (bs (errL (doS d.s (rlO d r)).2.code))) (dkV (doD d (rlO d r)).1 0 0 (vD d.s (rlO d r)) []) := by
 have h0 : (0 : Int) < l.length := by have := (List.getElem?_eq_some_iff.1 hw).1; omega
 have hasks := asks_run d (w := w) (i := 1) hl (by omega)
 rw [hA] at hasks
 simp only [rdRun, clV, clB, if_true] at hasks
 refine OkH.of_catch (st1 := anS d l) (rs := [.cell 4 9]) (n := 33) (q := 100) (v := 1) (g := 98) Tryz.func56 rfl rfl rfl (by simp) fo (by kernel_rfl) (by kernel_rfl) ?_ rfl ?_
 ·simp +decide -implicitDefEqProofs only [S0, simprocAttr, gfs]
  exact Less.swap (tm := anT l) (hp := anH d) (.e 100) (.l 4) 1 2 (by decide) rfl (by simp +decide -implicitDefEqProofs only [S0, simprocAttr, anH, hpE, List.map_cons, List.map_nil, List.cons_append, List.nil_append])
 simp +decide -implicitDefEqProofs only [S0, simprocAttr, X0, gfs, anS, anT, anH, hpE, swT, swH, swB, swG, List.map_cons, List.map_nil, List.cons_append, List.nil_append, h0, hw]
 refine .inl (callH hasks [.e 0, .e 1, .e 2, .e 3, .e 4, .e 5, .e 6, .e 7, .l 11, .l 18, .m 18 0] ?_)
 simp +decide -implicitDefEqProofs only [S0, simprocAttr, X0, gfs]
 refine .inl (callH (end_ok (l := l)) [.l 11] ?_)
 simp +decide -implicitDefEqProofs only [S0, simprocAttr, X0, gfs]
 refine .inr (pan (clRule_bad hd hc) [.e 0, .e 1, .e 2, .e 3, .e 4, .e 5, .e 6, .e 7, .l 18, .m 18 0] ?_)
 simp +decide -implicitDefEqProofs only [S0, simprocAttr, gfs]
 refine ⟨_, _, ansC_catch ⟨#[]⟩ (er_I (er_do d.s (rlO d r))), ?_, ?_, ?_, [], ?_⟩
 all_goals simp +decide -implicitDefEqProofs only [S0, simprocAttr, gfs, Option.getD_some]
theorem anRole_end {d : Dk} {w : ByteArray} {l : List ByteArray} {m : Int} {j : Nat} (hl : wdOk l) (hw : l[0]? = some w) (hA : asksD w l 1 = .none) (hO : othersD w l 1 = .got (.role m) j) (hj : j ≠ l.length) :
  OkH Tryz.prog 56 [.ptr (.e 0) 0 0, strs l] (dkH d []) (S (bs (errL 10))) (dkV d 0 0 0 []) := by
 have h0 : (0 : Int) < l.length := by have := (List.getElem?_eq_some_iff.1 hw).1; omega
 have hasks := asks_run d (w := w) (i := 1) hl (by omega)
 rw [hA] at hasks
 simp only [rdRun, clV, clB, if_true] at hasks
 have hoth := others_run d (w := w) (i := 1) hl (by omega)
 rw [hO] at hoth
 simp only [rdRun, clV, clB, Bool.false_eq_true, if_false] at hoth
 refine OkH.of_catch (st1 := anS d l) (rs := [.cell 4 9]) (n := 33) (q := 100) (v := 1) (g := 98) Tryz.func56 rfl rfl rfl (by simp) fo (by kernel_rfl) (by kernel_rfl) ?_ rfl ?_
 ·simp +decide -implicitDefEqProofs only [S0, simprocAttr, gfs]
  exact Less.swap (tm := anT l) (hp := anH d) (.e 100) (.l 4) 1 2 (by decide) rfl (by simp +decide -implicitDefEqProofs only [S0, simprocAttr, anH, hpE, List.map_cons, List.map_nil, List.cons_append, List.nil_append])
 simp +decide -implicitDefEqProofs only [S0, simprocAttr, X0, gfs, anS, anT, anH, hpE, swT, swH, swB, swG, List.map_cons, List.map_nil, List.cons_append, List.nil_append, h0, hw]
 refine .inl (callH hasks [.e 0, .e 1, .e 2, .e 3, .e 4, .e 5, .e 6, .e 7, .l 11] ?_)
 simp +decide -implicitDefEqProofs only [S0, simprocAttr, X0, gfs, h0, hw]
 refine .inl (callH hoth [.e 0, .e 1, .e 2, .e 3, .e 4, .e 5, .e 6, .e 7, .l 11, .l 28, .m 28 0] ?_)
 simp +decide -implicitDefEqProofs only [S0, simprocAttr, X0, gfs]
 refine .inr (pan (end_bad hj) [.l 11] ?_)
 simp +decide -implicitDefEqProofs only [S0, simprocAttr, gfs]
 refine ⟨_, _, ansC_catch ⟨#[]⟩ (e := 10) ⟨by decide, by decide⟩, ?_, ?_, ?_, [], ?_⟩
 all_goals simp +decide -implicitDefEqProofs only [S0, simprocAttr, gfs, Option.getD_some]
theorem anRole_ok {d : Dk} {w : ByteArray} {l : List ByteArray} {m : Int} (hl : wdOk l) (hw : l[0]? = some w) (hA : asksD w l 1 = .none) (hO : othersD w l 1 = .got (.role m) l.length) (hd : dkOk d) (h : chkUp (d.up ++ [m]) = 0) :
  OkH Tryz.prog 56 [.ptr (.e 0) 0 0, strs l] (dkH d []) (S (bs okB)) (dkV { d with s := ⟨d.up ++ [m], d.rs, [], []⟩, up := d.up ++ [m] } 0 1 1 []) := by
 have h0 : (0 : Int) < l.length := by have := (List.getElem?_eq_some_iff.1 hw).1; omega
 have hasks := asks_run d (w := w) (i := 1) hl (by omega)
 rw [hA] at hasks
 simp only [rdRun, clV, clB, if_true] at hasks
 have hoth := others_run d (w := w) (i := 1) hl (by omega)
 rw [hO] at hoth
 simp only [rdRun, clV, clB, Bool.false_eq_true, if_false] at hoth
 refine OkH.of_catch (st1 := anS d l) (rs := [.cell 4 9]) (n := 33) (q := 100) (v := 1) (g := 98) Tryz.func56 rfl rfl rfl (by simp) fo (by kernel_rfl) (by kernel_rfl) ?_ rfl ?_
 ·simp +decide -implicitDefEqProofs only [S0, simprocAttr, gfs]
  exact Less.swap (tm := anT l) (hp := anH d) (.e 100) (.l 4) 1 2 (by decide) rfl (by simp +decide -implicitDefEqProofs only [S0, simprocAttr, anH, hpE, List.map_cons, List.map_nil, List.cons_append, List.nil_append])
 simp +decide -implicitDefEqProofs only [S0, simprocAttr, X0, gfs, anS, anT, anH, hpE, swT, swH, swB, swG, List.map_cons, List.map_nil, List.cons_append, List.nil_append, h0, hw]
 refine .inl (callH hasks [.e 0, .e 1, .e 2, .e 3, .e 4, .e 5, .e 6, .e 7, .l 11] ?_)
 simp +decide -implicitDefEqProofs only [S0, simprocAttr, X0, gfs, h0, hw]
 refine .inl (callH hoth [.e 0, .e 1, .e 2, .e 3, .e 4, .e 5, .e 6, .e 7, .l 11, .l 28, .m 28 0] ?_)
 simp +decide -implicitDefEqProofs only [S0, simprocAttr, X0, gfs]
 refine .inl (callH (end_ok (l := l)) [.l 11] ?_)
 simp +decide -implicitDefEqProofs only [S0, simprocAttr, X0, gfs]
 refine .inl (callH (clRole_ok hd h) [.e 0, .e 1, .e 2, .e 3, .e 4, .e 5, .e 6, .e 7, .l 28, .m 28 0] ?_)
 simp +decide -implicitDefEqProofs only [S0, simprocAttr, X0, gfs]
 refine ⟨trivial, _, _, ansC_idle (bs okB), ?_, ?_, [], ?_⟩
 all_goals simp +decide -implicitDefEqProofs only [S0, simprocAttr, gfs, Option.getD_some]
 rfl
theorem anRole_bad {d : Dk} {w : ByteArray} {l : List ByteArray} {m : Int} (hl : wdOk l) (hw : l[0]? = some w) (hA : asksD w l 1 = .none) (hO : othersD w l 1 = .got (.role m) l.length) (hd : dkOk d) (h : chkUp (d.up ++ [m]) ≠ 0) :
  OkH Tryz.prog 56 [.ptr (.e 0) 0 0, strs l] (dkH d []) (S (bs (errL (chkUp (d.up ++ [m]))))) (dkV d 0 0 0 []) := by
 have h0 : (0 : Int) < l.length := by have := (List.getElem?_eq_some_iff.1 hw).1; omega
 have hasks := asks_run d (w := w) (i := 1) hl (by omega)
 rw [hA] at hasks
 simp only [rdRun, clV, clB, if_true] at hasks
 have hoth := others_run d (w := w) (i := 1) hl (by omega)
 rw [hO] at hoth
 simp only [rdRun, clV, clB, Bool.false_eq_true, if_false] at hoth
 refine OkH.of_catch (st1 := anS d l) (rs := [.cell 4 9]) (n := 33) (q := 100) (v := 1) (g := 98) Tryz.func56 rfl rfl rfl (by simp) fo (by kernel_rfl) (by kernel_rfl) ?_ rfl ?_
 ·simp +decide -implicitDefEqProofs only [S0, simprocAttr, gfs]
  exact Less.swap (tm := anT l) (hp := anH d) (.e 100) (.l 4) 1 2 (by decide) rfl (by simp +decide -implicitDefEqProofs only [S0, simprocAttr, anH, hpE, List.map_cons, List.map_nil, List.cons_append, List.nil_append])
 simp +decide -implicitDefEqProofs only [S0, simprocAttr, X0, gfs, anS, anT, anH, hpE, swT, swH, swB, swG, List.map_cons, List.map_nil, List.cons_append, List.nil_append, h0, hw]
 refine .inl (callH hasks [.e 0, .e 1, .e 2, .e 3, .e 4, .e 5, .e 6, .e 7, .l 11] ?_)
 simp +decide -implicitDefEqProofs only [S0, simprocAttr, X0, gfs, h0, hw]
 refine .inl (callH hoth [.e 0, .e 1, .e 2, .e 3, .e 4, .e 5, .e 6, .e 7, .l 11, .l 28, .m 28 0] ?_)
 simp +decide -implicitDefEqProofs only [S0, simprocAttr, X0, gfs]
 refine .inl (callH (end_ok (l := l)) [.l 11] ?_)
 simp +decide -implicitDefEqProofs only [S0, simprocAttr, X0, gfs]
 refine .inr (pan (clRole_bad hd h) [.e 0, .e 1, .e 2, .e 3, .e 4, .e 5, .e 6, .e 7, .l 28, .m 28 0] ?_)
 simp +decide -implicitDefEqProofs only [S0, simprocAttr, gfs]
 refine ⟨_, _, ansC_catch ⟨#[]⟩ (er_I (er_up _)), ?_, ?_, ?_, [], ?_⟩
 all_goals simp +decide -implicitDefEqProofs only [S0, simprocAttr, gfs, Option.getD_some]
theorem anBelow_end {d : Dk} {w : ByteArray} {l : List ByteArray} {a b c e : Int} {j : Nat} (hl : wdOk l) (hw : l[0]? = some w) (hA : asksD w l 1 = .none) (hO : othersD w l 1 = .got (.below a b c e) j) (hj : j ≠ l.length) :
  OkH Tryz.prog 56 [.ptr (.e 0) 0 0, strs l] (dkH d []) (S (bs (errL 10))) (dkV d 0 0 0 []) := by
 have h0 : (0 : Int) < l.length := by have := (List.getElem?_eq_some_iff.1 hw).1; omega
 have hasks := asks_run d (w := w) (i := 1) hl (by omega)
 rw [hA] at hasks
 simp only [rdRun, clV, clB, if_true] at hasks
 have hoth := others_run d (w := w) (i := 1) hl (by omega)
 rw [hO] at hoth
 simp only [rdRun, clV, clB, Bool.false_eq_true, if_false] at hoth
 refine OkH.of_catch (st1 := anS d l) (rs := [.cell 4 9]) (n := 33) (q := 100) (v := 1) (g := 98) Tryz.func56 rfl rfl rfl (by simp) fo (by kernel_rfl) (by kernel_rfl) ?_ rfl ?_
 ·simp +decide -implicitDefEqProofs only [S0, simprocAttr, gfs]
  exact Less.swap (tm := anT l) (hp := anH d) (.e 100) (.l 4) 1 2 (by decide) rfl (by simp +decide -implicitDefEqProofs only [S0, simprocAttr, anH, hpE, List.map_cons, List.map_nil, List.cons_append, List.nil_append])
 simp +decide -implicitDefEqProofs only [S0, simprocAttr, X0, gfs, anS, anT, anH, hpE, swT, swH, swB, swG, List.map_cons, List.map_nil, List.cons_append, List.nil_append, h0, hw]
 refine .inl (callH hasks [.e 0, .e 1, .e 2, .e 3, .e 4, .e 5, .e 6, .e 7, .l 11] ?_)
 simp +decide -implicitDefEqProofs only [S0, simprocAttr, X0, gfs, h0, hw]
 refine .inl (callH hoth [.e 0, .e 1, .e 2, .e 3, .e 4, .e 5, .e 6, .e 7, .l 11, .l 28, .m 28 0, .m 28 1] ?_)
 simp +decide -implicitDefEqProofs only [S0, simprocAttr, X0, gfs]
 refine .inr (pan (end_bad hj) [.l 11] ?_)
 simp +decide -implicitDefEqProofs only [S0, simprocAttr, gfs]
 refine ⟨_, _, ansC_catch ⟨#[]⟩ (e := 10) ⟨by decide, by decide⟩, ?_, ?_, ?_, [], ?_⟩
 all_goals simp +decide -implicitDefEqProofs only [S0, simprocAttr, gfs, Option.getD_some]
theorem anBelow_ok {d : Dk} {w : ByteArray} {l : List ByteArray} {a b c e : Int} (hl : wdOk l) (hw : l[0]? = some w) (hA : asksD w l 1 = .none) (hO : othersD w l 1 = .got (.below a b c e) l.length) (h : (okLab a b && okLab c e) = true) :
  OkH Tryz.prog 56 [.ptr (.e 0) 0 0, strs l] (dkH d []) (S (bs (if decide (a ≤ c) && bnot b e == 0 then okB ++ [32, 121, 101, 115] else okB ++ [32, 110, 111]))) (dkV d 0 0 0 []) := by
 have h0 : (0 : Int) < l.length := by have := (List.getElem?_eq_some_iff.1 hw).1; omega
 have hasks := asks_run d (w := w) (i := 1) hl (by omega)
 rw [hA] at hasks
 simp only [rdRun, clV, clB, if_true] at hasks
 have hoth := others_run d (w := w) (i := 1) hl (by omega)
 rw [hO] at hoth
 simp only [rdRun, clV, clB, Bool.false_eq_true, if_false] at hoth
 refine OkH.of_catch (st1 := anS d l) (rs := [.cell 4 9]) (n := 33) (q := 100) (v := 1) (g := 98) Tryz.func56 rfl rfl rfl (by simp) fo (by kernel_rfl) (by kernel_rfl) ?_ rfl ?_
 ·simp +decide -implicitDefEqProofs only [S0, simprocAttr, gfs]
  exact Less.swap (tm := anT l) (hp := anH d) (.e 100) (.l 4) 1 2 (by decide) rfl (by simp +decide -implicitDefEqProofs only [S0, simprocAttr, anH, hpE, List.map_cons, List.map_nil, List.cons_append, List.nil_append])
 simp +decide -implicitDefEqProofs only [S0, simprocAttr, X0, gfs, anS, anT, anH, hpE, swT, swH, swB, swG, List.map_cons, List.map_nil, List.cons_append, List.nil_append, h0, hw]
 refine .inl (callH hasks [.e 0, .e 1, .e 2, .e 3, .e 4, .e 5, .e 6, .e 7, .l 11] ?_)
 simp +decide -implicitDefEqProofs only [S0, simprocAttr, X0, gfs, h0, hw]
 refine .inl (callH hoth [.e 0, .e 1, .e 2, .e 3, .e 4, .e 5, .e 6, .e 7, .l 11, .l 28, .m 28 0, .m 28 1] ?_)
 simp +decide -implicitDefEqProofs only [S0, simprocAttr, X0, gfs]
 refine .inl (callH (end_ok (l := l)) [.l 11] ?_)
 simp +decide -implicitDefEqProofs only [S0, simprocAttr, X0, gfs]
 refine .inl (callH (clBelow_ok (d := d) h) [.m 28 0, .m 28 1] ?_)
 simp +decide -implicitDefEqProofs only [S0, simprocAttr, X0, gfs]
 refine ⟨trivial, _, _, ansC_idle (bs (if decide (a ≤ c) && bnot b e == 0 then okB ++ [32, 121, 101, 115] else okB ++ [32, 110, 111])), ?_, ?_, [], ?_⟩
 all_goals simp +decide -implicitDefEqProofs only [S0, simprocAttr, gfs, Option.getD_some]
theorem anBelow_bad {d : Dk} {w : ByteArray} {l : List ByteArray} {a b c e : Int} (hl : wdOk l) (hw : l[0]? = some w) (hA : asksD w l 1 = .none) (hO : othersD w l 1 = .got (.below a b c e) l.length) (h : (okLab a b && okLab c e) ≠ true) :
  OkH Tryz.prog 56 [.ptr (.e 0) 0 0, strs l] (dkH d []) (S (bs (errL 1))) (dkV d 0 0 0 []) := by
 have h0 : (0 : Int) < l.length := by have := (List.getElem?_eq_some_iff.1 hw).1; omega
 have hasks := asks_run d (w := w) (i := 1) hl (by omega)
 rw [hA] at hasks
 simp only [rdRun, clV, clB, if_true] at hasks
 have hoth := others_run d (w := w) (i := 1) hl (by omega)
 rw [hO] at hoth
 simp only [rdRun, clV, clB, Bool.false_eq_true, if_false] at hoth
 refine OkH.of_catch (st1 := anS d l) (rs := [.cell 4 9]) (n := 33) (q := 100) (v := 1) (g := 98) Tryz.func56 rfl rfl rfl (by simp) fo (by kernel_rfl) (by kernel_rfl) ?_ rfl ?_
 ·simp +decide -implicitDefEqProofs only [S0, simprocAttr, gfs]
  exact Less.swap (tm := anT l) (hp := anH d) (.e 100) (.l 4) 1 2 (by decide) rfl (by simp +decide -implicitDefEqProofs only [S0, simprocAttr, anH, hpE, List.map_cons, List.map_nil, List.cons_append, List.nil_append])
 simp +decide -implicitDefEqProofs only [S0, simprocAttr, X0, gfs, anS, anT, anH, hpE, swT, swH, swB, swG, List.map_cons, List.map_nil, List.cons_append, List.nil_append, h0, hw]
 refine .inl (callH hasks [.e 0, .e 1, .e 2, .e 3, .e 4, .e 5, .e 6, .e 7, .l 11] ?_)
 simp +decide -implicitDefEqProofs only [S0, simprocAttr, X0, gfs, h0, hw]
 refine .inl (callH hoth [.e 0, .e 1, .e 2, .e 3, .e 4, .e 5, .e 6, .e 7, .l 11, .l 28, .m 28 0, .m 28 1] ?_)
 simp +decide -implicitDefEqProofs only [S0, simprocAttr, X0, gfs]
 refine .inl (callH (end_ok (l := l)) [.l 11] ?_)
 simp +decide -implicitDefEqProofs only [S0, simprocAttr, X0, gfs]
 refine .inr (pan (clBelow_bad (d := d) h) [.m 28 0, .m 28 1] ?_)
 simp +decide -implicitDefEqProofs only [S0, simprocAttr, gfs]
 refine ⟨_, _, ansC_catch ⟨#[]⟩ (e := 1) ⟨by decide, by decide⟩, ?_, ?_, ?_, [], ?_⟩
 all_goals simp +decide -implicitDefEqProofs only [S0, simprocAttr, gfs, Option.getD_some]
theorem anSend_end {d : Dk} {w : ByteArray} {l : List ByteArray} {i n : Int} {j : Nat} (hl : wdOk l) (hw : l[0]? = some w) (hA : asksD w l 1 = .none) (hO : othersD w l 1 = .got (.send i n) j) (hj : j ≠ l.length) :
  OkH Tryz.prog 56 [.ptr (.e 0) 0 0, strs l] (dkH d []) (S (bs (errL 10))) (dkV d 0 0 0 []) := by
 have h0 : (0 : Int) < l.length := by have := (List.getElem?_eq_some_iff.1 hw).1; omega
 have hasks := asks_run d (w := w) (i := 1) hl (by omega)
 rw [hA] at hasks
 simp only [rdRun, clV, clB, if_true] at hasks
 have hoth := others_run d (w := w) (i := 1) hl (by omega)
 rw [hO] at hoth
 simp only [rdRun, clV, clB, Bool.false_eq_true, if_false] at hoth
 refine OkH.of_catch (st1 := anS d l) (rs := [.cell 4 9]) (n := 33) (q := 100) (v := 1) (g := 98) Tryz.func56 rfl rfl rfl (by simp) fo (by kernel_rfl) (by kernel_rfl) ?_ rfl ?_
 ·simp +decide -implicitDefEqProofs only [S0, simprocAttr, gfs]
  exact Less.swap (tm := anT l) (hp := anH d) (.e 100) (.l 4) 1 2 (by decide) rfl (by simp +decide -implicitDefEqProofs only [S0, simprocAttr, anH, hpE, List.map_cons, List.map_nil, List.cons_append, List.nil_append])
 simp +decide -implicitDefEqProofs only [S0, simprocAttr, X0, gfs, anS, anT, anH, hpE, swT, swH, swB, swG, List.map_cons, List.map_nil, List.cons_append, List.nil_append, h0, hw]
 refine .inl (callH hasks [.e 0, .e 1, .e 2, .e 3, .e 4, .e 5, .e 6, .e 7, .l 11] ?_)
 simp +decide -implicitDefEqProofs only [S0, simprocAttr, X0, gfs, h0, hw]
 refine .inl (callH hoth [.e 0, .e 1, .e 2, .e 3, .e 4, .e 5, .e 6, .e 7, .l 11, .l 28, .m 28 0, .m 28 1] ?_)
 simp +decide -implicitDefEqProofs only [S0, simprocAttr, X0, gfs]
 refine .inr (pan (end_bad hj) [.l 11] ?_)
 simp +decide -implicitDefEqProofs only [S0, simprocAttr, gfs]
 refine ⟨_, _, ansC_catch ⟨#[]⟩ (e := 10) ⟨by decide, by decide⟩, ?_, ?_, ?_, [], ?_⟩
 all_goals simp +decide -implicitDefEqProofs only [S0, simprocAttr, gfs, Option.getD_some]
theorem anSend_ok {d : Dk} {w : ByteArray} {l : List ByteArray} {i n : Int} (hl : wdOk l) (hw : l[0]? = some w) (hA : asksD w l 1 = .none) (hO : othersD w l 1 = .got (.send i n) l.length) (hd : dkOk d) {p k : Nat} (hi : i = ((p + 1 : Nat) : Int)) (hn : n = (k : Int)) (hp : p + 1 < d.g.n) (hk : k ≤ d.g.log.length) (ht : tkE d.g p k (d.g.log.drop k) = 0) :
  OkH Tryz.prog 56 [.ptr (.e 0) 0 0, strs l] (dkH d []) (S (bs (toldL [((tkL d.g p k (d.g.log.drop k)).length : Nat)]))) (dkV { d with g := gTake d.g p k (d.g.log.drop k) } 0 0 0 []) := by
 have h0 : (0 : Int) < l.length := by have := (List.getElem?_eq_some_iff.1 hw).1; omega
 subst hi hn
 have hasks := asks_run d (w := w) (i := 1) hl (by omega)
 rw [hA] at hasks
 simp only [rdRun, clV, clB, if_true] at hasks
 have hoth := others_run d (w := w) (i := 1) hl (by omega)
 rw [hO] at hoth
 simp only [rdRun, clV, clB, Bool.false_eq_true, if_false] at hoth
 refine OkH.of_catch (st1 := anS d l) (rs := [.cell 4 9]) (n := 33) (q := 100) (v := 1) (g := 98) Tryz.func56 rfl rfl rfl (by simp) fo (by kernel_rfl) (by kernel_rfl) ?_ rfl ?_
 ·simp +decide -implicitDefEqProofs only [S0, simprocAttr, gfs]
  exact Less.swap (tm := anT l) (hp := anH d) (.e 100) (.l 4) 1 2 (by decide) rfl (by simp +decide -implicitDefEqProofs only [S0, simprocAttr, anH, hpE, List.map_cons, List.map_nil, List.cons_append, List.nil_append])
 simp +decide -implicitDefEqProofs only [S0, simprocAttr, X0, gfs, anS, anT, anH, hpE, swT, swH, swB, swG, List.map_cons, List.map_nil, List.cons_append, List.nil_append, h0, hw]
 refine .inl (callH hasks [.e 0, .e 1, .e 2, .e 3, .e 4, .e 5, .e 6, .e 7, .l 11] ?_)
 simp +decide -implicitDefEqProofs only [S0, simprocAttr, X0, gfs, h0, hw]
 refine .inl (callH hoth [.e 0, .e 1, .e 2, .e 3, .e 4, .e 5, .e 6, .e 7, .l 11, .l 28, .m 28 0, .m 28 1] ?_)
 simp +decide -implicitDefEqProofs only [S0, simprocAttr, X0, gfs]
 refine .inl (callH (end_ok (l := l)) [.l 11] ?_)
 simp +decide -implicitDefEqProofs only [S0, simprocAttr, X0, gfs]
 refine .inl (callH (clSend_ok hd hp hk ht) [.e 0, .e 1, .e 2, .e 3, .e 4, .e 5, .e 6, .e 7, .l 28, .m 28 0, .m 28 1] ?_)
 simp +decide -implicitDefEqProofs only [S0, simprocAttr, X0, gfs]
 refine ⟨trivial, _, _, ansC_idle (bs (toldL [((tkL d.g p k (d.g.log.drop k)).length : Nat)])), ?_, ?_, [], ?_⟩
 all_goals simp +decide -implicitDefEqProofs only [S0, simprocAttr, gfs, Option.getD_some]
theorem anSend_bad {d : Dk} {w : ByteArray} {l : List ByteArray} {i n : Int} (hl : wdOk l) (hw : l[0]? = some w) (hA : asksD w l 1 = .none) (hO : othersD w l 1 = .got (.send i n) l.length) (hd : dkOk d) (h : sendE d.g i n ≠ 0) :
  OkH Tryz.prog 56 [.ptr (.e 0) 0 0, strs l] (dkH d []) (S (bs (errL (sendE d.g i n)))) (dkV d 0 0 0 []) := by
 have h0 : (0 : Int) < l.length := by have := (List.getElem?_eq_some_iff.1 hw).1; omega
 have hasks := asks_run d (w := w) (i := 1) hl (by omega)
 rw [hA] at hasks
 simp only [rdRun, clV, clB, if_true] at hasks
 have hoth := others_run d (w := w) (i := 1) hl (by omega)
 rw [hO] at hoth
 simp only [rdRun, clV, clB, Bool.false_eq_true, if_false] at hoth
 refine OkH.of_catch (st1 := anS d l) (rs := [.cell 4 9]) (n := 33) (q := 100) (v := 1) (g := 98) Tryz.func56 rfl rfl rfl (by simp) fo (by kernel_rfl) (by kernel_rfl) ?_ rfl ?_
 ·simp +decide -implicitDefEqProofs only [S0, simprocAttr, gfs]
  exact Less.swap (tm := anT l) (hp := anH d) (.e 100) (.l 4) 1 2 (by decide) rfl (by simp +decide -implicitDefEqProofs only [S0, simprocAttr, anH, hpE, List.map_cons, List.map_nil, List.cons_append, List.nil_append])
 simp +decide -implicitDefEqProofs only [S0, simprocAttr, X0, gfs, anS, anT, anH, hpE, swT, swH, swB, swG, List.map_cons, List.map_nil, List.cons_append, List.nil_append, h0, hw]
 refine .inl (callH hasks [.e 0, .e 1, .e 2, .e 3, .e 4, .e 5, .e 6, .e 7, .l 11] ?_)
 simp +decide -implicitDefEqProofs only [S0, simprocAttr, X0, gfs, h0, hw]
 refine .inl (callH hoth [.e 0, .e 1, .e 2, .e 3, .e 4, .e 5, .e 6, .e 7, .l 11, .l 28, .m 28 0, .m 28 1] ?_)
 simp +decide -implicitDefEqProofs only [S0, simprocAttr, X0, gfs]
 refine .inl (callH (end_ok (l := l)) [.l 11] ?_)
 simp +decide -implicitDefEqProofs only [S0, simprocAttr, X0, gfs]
 refine .inr (pan (clSend_bad1 hd h) [.e 0, .e 1, .e 2, .e 3, .e 4, .e 5, .e 6, .e 7, .l 28, .m 28 0, .m 28 1] ?_)
 simp +decide -implicitDefEqProofs only [S0, simprocAttr, gfs]
 refine ⟨_, _, ansC_catch ⟨#[]⟩ (er_I (er_send _ _ _)), ?_, ?_, ?_, [], ?_⟩
 all_goals simp +decide -implicitDefEqProofs only [S0, simprocAttr, gfs, Option.getD_some]
theorem anSend_bad2 {d : Dk} {w : ByteArray} {l : List ByteArray} {i n : Int} (hl : wdOk l) (hw : l[0]? = some w) (hA : asksD w l 1 = .none) (hO : othersD w l 1 = .got (.send i n) l.length) (hd : dkOk d) {p k : Nat} (hi : i = ((p + 1 : Nat) : Int)) (hn : n = (k : Int)) (hp : p + 1 < d.g.n) (hk : k ≤ d.g.log.length) (ht : tkE d.g p k (d.g.log.drop k) ≠ 0) :
  OkH Tryz.prog 56 [.ptr (.e 0) 0 0, strs l] (dkH d []) (S (bs (errL (tkE d.g p k (d.g.log.drop k))))) (dkV d 0 0 0 []) := by
 have h0 : (0 : Int) < l.length := by have := (List.getElem?_eq_some_iff.1 hw).1; omega
 subst hi hn
 have hasks := asks_run d (w := w) (i := 1) hl (by omega)
 rw [hA] at hasks
 simp only [rdRun, clV, clB, if_true] at hasks
 have hoth := others_run d (w := w) (i := 1) hl (by omega)
 rw [hO] at hoth
 simp only [rdRun, clV, clB, Bool.false_eq_true, if_false] at hoth
 refine OkH.of_catch (st1 := anS d l) (rs := [.cell 4 9]) (n := 33) (q := 100) (v := 1) (g := 98) Tryz.func56 rfl rfl rfl (by simp) fo (by kernel_rfl) (by kernel_rfl) ?_ rfl ?_
 ·simp +decide -implicitDefEqProofs only [S0, simprocAttr, gfs]
  exact Less.swap (tm := anT l) (hp := anH d) (.e 100) (.l 4) 1 2 (by decide) rfl (by simp +decide -implicitDefEqProofs only [S0, simprocAttr, anH, hpE, List.map_cons, List.map_nil, List.cons_append, List.nil_append])
 simp +decide -implicitDefEqProofs only [S0, simprocAttr, X0, gfs, anS, anT, anH, hpE, swT, swH, swB, swG, List.map_cons, List.map_nil, List.cons_append, List.nil_append, h0, hw]
 refine .inl (callH hasks [.e 0, .e 1, .e 2, .e 3, .e 4, .e 5, .e 6, .e 7, .l 11] ?_)
 simp +decide -implicitDefEqProofs only [S0, simprocAttr, X0, gfs, h0, hw]
 refine .inl (callH hoth [.e 0, .e 1, .e 2, .e 3, .e 4, .e 5, .e 6, .e 7, .l 11, .l 28, .m 28 0, .m 28 1] ?_)
 simp +decide -implicitDefEqProofs only [S0, simprocAttr, X0, gfs]
 refine .inl (callH (end_ok (l := l)) [.l 11] ?_)
 simp +decide -implicitDefEqProofs only [S0, simprocAttr, X0, gfs]
 refine .inr (pan (clSend_bad2 hd hp hk ht) [.e 0, .e 1, .e 2, .e 3, .e 4, .e 5, .e 6, .e 7, .l 28, .m 28 0, .m 28 1] ?_)
 simp +decide -implicitDefEqProofs only [S0, simprocAttr, gfs]
 refine ⟨_, _, ansC_catch ⟨#[]⟩ (er_I (er_tk _ _ _ _)), ?_, ?_, ?_, [], ?_⟩
 all_goals simp +decide -implicitDefEqProofs only [S0, simprocAttr, gfs, Option.getD_some]
theorem anAck_end {d : Dk} {w : ByteArray} {l : List ByteArray} {i n : Int} {j : Nat} (hl : wdOk l) (hw : l[0]? = some w) (hA : asksD w l 1 = .none) (hO : othersD w l 1 = .got (.ack i n) j) (hj : j ≠ l.length) :
  OkH Tryz.prog 56 [.ptr (.e 0) 0 0, strs l] (dkH d []) (S (bs (errL 10))) (dkV d 0 0 0 []) := by
 have h0 : (0 : Int) < l.length := by have := (List.getElem?_eq_some_iff.1 hw).1; omega
 have hasks := asks_run d (w := w) (i := 1) hl (by omega)
 rw [hA] at hasks
 simp only [rdRun, clV, clB, if_true] at hasks
 have hoth := others_run d (w := w) (i := 1) hl (by omega)
 rw [hO] at hoth
 simp only [rdRun, clV, clB, Bool.false_eq_true, if_false] at hoth
 refine OkH.of_catch (st1 := anS d l) (rs := [.cell 4 9]) (n := 33) (q := 100) (v := 1) (g := 98) Tryz.func56 rfl rfl rfl (by simp) fo (by kernel_rfl) (by kernel_rfl) ?_ rfl ?_
 ·simp +decide -implicitDefEqProofs only [S0, simprocAttr, gfs]
  exact Less.swap (tm := anT l) (hp := anH d) (.e 100) (.l 4) 1 2 (by decide) rfl (by simp +decide -implicitDefEqProofs only [S0, simprocAttr, anH, hpE, List.map_cons, List.map_nil, List.cons_append, List.nil_append])
 simp +decide -implicitDefEqProofs only [S0, simprocAttr, X0, gfs, anS, anT, anH, hpE, swT, swH, swB, swG, List.map_cons, List.map_nil, List.cons_append, List.nil_append, h0, hw]
 refine .inl (callH hasks [.e 0, .e 1, .e 2, .e 3, .e 4, .e 5, .e 6, .e 7, .l 11] ?_)
 simp +decide -implicitDefEqProofs only [S0, simprocAttr, X0, gfs, h0, hw]
 refine .inl (callH hoth [.e 0, .e 1, .e 2, .e 3, .e 4, .e 5, .e 6, .e 7, .l 11, .l 28, .m 28 0, .m 28 1] ?_)
 simp +decide -implicitDefEqProofs only [S0, simprocAttr, X0, gfs]
 refine .inr (pan (end_bad hj) [.l 11] ?_)
 simp +decide -implicitDefEqProofs only [S0, simprocAttr, gfs]
 refine ⟨_, _, ansC_catch ⟨#[]⟩ (e := 10) ⟨by decide, by decide⟩, ?_, ?_, ?_, [], ?_⟩
 all_goals simp +decide -implicitDefEqProofs only [S0, simprocAttr, gfs, Option.getD_some]
theorem anAck_ok {d : Dk} {w : ByteArray} {l : List ByteArray} {i n : Int} (hl : wdOk l) (hw : l[0]? = some w) (hA : asksD w l 1 = .none) (hO : othersD w l 1 = .got (.ack i n) l.length) (hd : dkOk d) (h : ackE d.g i n = 0) :
  OkH Tryz.prog 56 [.ptr (.e 0) 0 0, strs l] (dkH d []) (S (bs okB)) (dkV { d with g := gAck d.g (i - 1).toNat n } 0 0 0 []) := by
 have h0 : (0 : Int) < l.length := by have := (List.getElem?_eq_some_iff.1 hw).1; omega
 have hasks := asks_run d (w := w) (i := 1) hl (by omega)
 rw [hA] at hasks
 simp only [rdRun, clV, clB, if_true] at hasks
 have hoth := others_run d (w := w) (i := 1) hl (by omega)
 rw [hO] at hoth
 simp only [rdRun, clV, clB, Bool.false_eq_true, if_false] at hoth
 refine OkH.of_catch (st1 := anS d l) (rs := [.cell 4 9]) (n := 33) (q := 100) (v := 1) (g := 98) Tryz.func56 rfl rfl rfl (by simp) fo (by kernel_rfl) (by kernel_rfl) ?_ rfl ?_
 ·simp +decide -implicitDefEqProofs only [S0, simprocAttr, gfs]
  exact Less.swap (tm := anT l) (hp := anH d) (.e 100) (.l 4) 1 2 (by decide) rfl (by simp +decide -implicitDefEqProofs only [S0, simprocAttr, anH, hpE, List.map_cons, List.map_nil, List.cons_append, List.nil_append])
 simp +decide -implicitDefEqProofs only [S0, simprocAttr, X0, gfs, anS, anT, anH, hpE, swT, swH, swB, swG, List.map_cons, List.map_nil, List.cons_append, List.nil_append, h0, hw]
 refine .inl (callH hasks [.e 0, .e 1, .e 2, .e 3, .e 4, .e 5, .e 6, .e 7, .l 11] ?_)
 simp +decide -implicitDefEqProofs only [S0, simprocAttr, X0, gfs, h0, hw]
 refine .inl (callH hoth [.e 0, .e 1, .e 2, .e 3, .e 4, .e 5, .e 6, .e 7, .l 11, .l 28, .m 28 0, .m 28 1] ?_)
 simp +decide -implicitDefEqProofs only [S0, simprocAttr, X0, gfs]
 refine .inl (callH (end_ok (l := l)) [.l 11] ?_)
 simp +decide -implicitDefEqProofs only [S0, simprocAttr, X0, gfs]
 refine .inl (callH (clAck_ok hd h) [.e 0, .e 1, .e 2, .e 3, .e 4, .e 5, .e 6, .e 7, .l 28, .m 28 0, .m 28 1] ?_)
 simp +decide -implicitDefEqProofs only [S0, simprocAttr, X0, gfs]
 refine ⟨trivial, _, _, ansC_idle (bs okB), ?_, ?_, [], ?_⟩
 all_goals simp +decide -implicitDefEqProofs only [S0, simprocAttr, gfs, Option.getD_some]
theorem anAck_bad {d : Dk} {w : ByteArray} {l : List ByteArray} {i n : Int} (hl : wdOk l) (hw : l[0]? = some w) (hA : asksD w l 1 = .none) (hO : othersD w l 1 = .got (.ack i n) l.length) (hd : dkOk d) (h : ackE d.g i n ≠ 0) :
  OkH Tryz.prog 56 [.ptr (.e 0) 0 0, strs l] (dkH d []) (S (bs (errL (ackE d.g i n)))) (dkV d 0 0 0 []) := by
 have h0 : (0 : Int) < l.length := by have := (List.getElem?_eq_some_iff.1 hw).1; omega
 have hasks := asks_run d (w := w) (i := 1) hl (by omega)
 rw [hA] at hasks
 simp only [rdRun, clV, clB, if_true] at hasks
 have hoth := others_run d (w := w) (i := 1) hl (by omega)
 rw [hO] at hoth
 simp only [rdRun, clV, clB, Bool.false_eq_true, if_false] at hoth
 refine OkH.of_catch (st1 := anS d l) (rs := [.cell 4 9]) (n := 33) (q := 100) (v := 1) (g := 98) Tryz.func56 rfl rfl rfl (by simp) fo (by kernel_rfl) (by kernel_rfl) ?_ rfl ?_
 ·simp +decide -implicitDefEqProofs only [S0, simprocAttr, gfs]
  exact Less.swap (tm := anT l) (hp := anH d) (.e 100) (.l 4) 1 2 (by decide) rfl (by simp +decide -implicitDefEqProofs only [S0, simprocAttr, anH, hpE, List.map_cons, List.map_nil, List.cons_append, List.nil_append])
 simp +decide -implicitDefEqProofs only [S0, simprocAttr, X0, gfs, anS, anT, anH, hpE, swT, swH, swB, swG, List.map_cons, List.map_nil, List.cons_append, List.nil_append, h0, hw]
 refine .inl (callH hasks [.e 0, .e 1, .e 2, .e 3, .e 4, .e 5, .e 6, .e 7, .l 11] ?_)
 simp +decide -implicitDefEqProofs only [S0, simprocAttr, X0, gfs, h0, hw]
 refine .inl (callH hoth [.e 0, .e 1, .e 2, .e 3, .e 4, .e 5, .e 6, .e 7, .l 11, .l 28, .m 28 0, .m 28 1] ?_)
 simp +decide -implicitDefEqProofs only [S0, simprocAttr, X0, gfs]
 refine .inl (callH (end_ok (l := l)) [.l 11] ?_)
 simp +decide -implicitDefEqProofs only [S0, simprocAttr, X0, gfs]
 refine .inr (pan (clAck_bad hd h) [.e 0, .e 1, .e 2, .e 3, .e 4, .e 5, .e 6, .e 7, .l 28, .m 28 0, .m 28 1] ?_)
 simp +decide -implicitDefEqProofs only [S0, simprocAttr, gfs]
 refine ⟨_, _, ansC_catch ⟨#[]⟩ (er_I (er_ack _ _ _)), ?_, ?_, ?_, [], ?_⟩
 all_goals simp +decide -implicitDefEqProofs only [S0, simprocAttr, gfs, Option.getD_some]
theorem anSure_end {d : Dk} {w : ByteArray} {l : List ByteArray}  {j : Nat} (hl : wdOk l) (hw : l[0]? = some w) (hA : asksD w l 1 = .none) (hO : othersD w l 1 = .got (.sure) j) (hj : j ≠ l.length) :
  OkH Tryz.prog 56 [.ptr (.e 0) 0 0, strs l] (dkH d []) (S (bs (errL 10))) (dkV d 0 0 0 []) := by
 have h0 : (0 : Int) < l.length := by have := (List.getElem?_eq_some_iff.1 hw).1; omega
 have hasks := asks_run d (w := w) (i := 1) hl (by omega)
 rw [hA] at hasks
 simp only [rdRun, clV, clB, if_true] at hasks
 have hoth := others_run d (w := w) (i := 1) hl (by omega)
 rw [hO] at hoth
 simp only [rdRun, clV, clB, Bool.false_eq_true, if_false] at hoth
 refine OkH.of_catch (st1 := anS d l) (rs := [.cell 4 9]) (n := 33) (q := 100) (v := 1) (g := 98) Tryz.func56 rfl rfl rfl (by simp) fo (by kernel_rfl) (by kernel_rfl) ?_ rfl ?_
 ·simp +decide -implicitDefEqProofs only [S0, simprocAttr, gfs]
  exact Less.swap (tm := anT l) (hp := anH d) (.e 100) (.l 4) 1 2 (by decide) rfl (by simp +decide -implicitDefEqProofs only [S0, simprocAttr, anH, hpE, List.map_cons, List.map_nil, List.cons_append, List.nil_append])
 simp +decide -implicitDefEqProofs only [S0, simprocAttr, X0, gfs, anS, anT, anH, hpE, swT, swH, swB, swG, List.map_cons, List.map_nil, List.cons_append, List.nil_append, h0, hw]
 refine .inl (callH hasks [.e 0, .e 1, .e 2, .e 3, .e 4, .e 5, .e 6, .e 7, .l 11] ?_)
 simp +decide -implicitDefEqProofs only [S0, simprocAttr, X0, gfs, h0, hw]
 refine .inl (callH hoth [.e 0, .e 1, .e 2, .e 3, .e 4, .e 5, .e 6, .e 7, .l 11, .l 28] ?_)
 simp +decide -implicitDefEqProofs only [S0, simprocAttr, X0, gfs]
 refine .inr (pan (end_bad hj) [.l 11] ?_)
 simp +decide -implicitDefEqProofs only [S0, simprocAttr, gfs]
 refine ⟨_, _, ansC_catch ⟨#[]⟩ (e := 10) ⟨by decide, by decide⟩, ?_, ?_, ?_, [], ?_⟩
 all_goals simp +decide -implicitDefEqProofs only [S0, simprocAttr, gfs, Option.getD_some]
theorem anSure_ok {d : Dk} {w : ByteArray} {l : List ByteArray}  (hl : wdOk l) (hw : l[0]? = some w) (hA : asksD w l 1 = .none) (hO : othersD w l 1 = .got (.sure) l.length) (hd : dkOk d) :
  OkH Tryz.prog 56 [.ptr (.e 0) 0 0, strs l] (dkH d []) (S (bs (toldL [gSure d.g]))) (dkV d 0 0 0 []) := by
 have h0 : (0 : Int) < l.length := by have := (List.getElem?_eq_some_iff.1 hw).1; omega
 have hasks := asks_run d (w := w) (i := 1) hl (by omega)
 rw [hA] at hasks
 simp only [rdRun, clV, clB, if_true] at hasks
 have hoth := others_run d (w := w) (i := 1) hl (by omega)
 rw [hO] at hoth
 simp only [rdRun, clV, clB, Bool.false_eq_true, if_false] at hoth
 refine OkH.of_catch (st1 := anS d l) (rs := [.cell 4 9]) (n := 33) (q := 100) (v := 1) (g := 98) Tryz.func56 rfl rfl rfl (by simp) fo (by kernel_rfl) (by kernel_rfl) ?_ rfl ?_
 ·simp +decide -implicitDefEqProofs only [S0, simprocAttr, gfs]
  exact Less.swap (tm := anT l) (hp := anH d) (.e 100) (.l 4) 1 2 (by decide) rfl (by simp +decide -implicitDefEqProofs only [S0, simprocAttr, anH, hpE, List.map_cons, List.map_nil, List.cons_append, List.nil_append])
 simp +decide -implicitDefEqProofs only [S0, simprocAttr, X0, gfs, anS, anT, anH, hpE, swT, swH, swB, swG, List.map_cons, List.map_nil, List.cons_append, List.nil_append, h0, hw]
 refine .inl (callH hasks [.e 0, .e 1, .e 2, .e 3, .e 4, .e 5, .e 6, .e 7, .l 11] ?_)
 simp +decide -implicitDefEqProofs only [S0, simprocAttr, X0, gfs, h0, hw]
 refine .inl (callH hoth [.e 0, .e 1, .e 2, .e 3, .e 4, .e 5, .e 6, .e 7, .l 11, .l 28] ?_)
 simp +decide -implicitDefEqProofs only [S0, simprocAttr, X0, gfs]
 refine .inl (callH (end_ok (l := l)) [.l 11] ?_)
 simp +decide -implicitDefEqProofs only [S0, simprocAttr, X0, gfs]
 refine .inl (callH (clSure_ok hd) [.e 0, .e 1, .e 2, .e 3, .e 4, .e 5, .e 6, .e 7, .l 28] ?_)
 simp +decide -implicitDefEqProofs only [S0, simprocAttr, X0, gfs]
 refine ⟨trivial, _, _, ansC_idle (bs (toldL [gSure d.g])), ?_, ?_, [], ?_⟩
 all_goals simp +decide -implicitDefEqProofs only [S0, simprocAttr, gfs, Option.getD_some]
end Go.Proofs.YtonolfpnidaflaaGreatDoor.E

namespace Go.Proofs.YtonolfpnidaflaaGreatDoor.E
open Go
set_option linter.unusedSimpArgs false
set_option linter.unusedVariables false
set_option linter.unusedSectionVars false
set_option maxRecDepth 20000
set_option maxHeartbeats 2000000
theorem ansD_err {d d' : Dk} {l : List ByteArray} {e : Int} (h : lineD d l = (d', .error e)) : ansD d l = (d', errL e) := by unfold ansD; rw [h]
theorem ansD_res {d d' : Dk} {l : List ByteArray} {x : List UInt8} (h : lineD d l = (d', .ok x)) : ansD d l = (d', x) := by unfold ansD; rw [h]
theorem line_got {d : Dk} {w : ByteArray} {r : List ByteArray} {c : Cl} {j : Nat} (h : asksD w (w :: r) 1 = .got c j) : lineD d (w :: r) = if j = (w :: r).length then clD d c else (d, .error 10) := by
 simp only [lineD, h]
 rfl
theorem line_oth {d : Dk} {w : ByteArray} {r : List ByteArray} {c : Cl} {j : Nat} (h0 : asksD w (w :: r) 1 = .none) (h : othersD w (w :: r) 1 = .got c j) : lineD d (w :: r) = if j = (w :: r).length then clD d c else (d, .error 10) := by
 simp only [lineD, h0]
 rw [h]
 rfl
abbrev AnOk (d : Dk) (l : List ByteArray) : Prop := ∃ v v6 v7, OkH Tryz.prog 56 [.ptr (.e 0) 0 0, strs l] (dkH d []) (S (bs (ansD d l).2)) (dkV (ansD d l).1 v v6 v7 [])
theorem an_mk {d d' : Dk} {l : List ByteArray} {x : List UInt8} {v v6 v7 : Nat} (e : ansD d l = (d', x)) (h : OkH Tryz.prog 56 [.ptr (.e 0) 0 0, strs l] (dkH d []) (S (bs x)) (dkV d' v v6 v7 [])) : AnOk d l := by
 refine ⟨v, v6, v7, ?_⟩
 rw [e]
 exact h
theorem doD_bad {d : Dk} {o : OpS} (h : (doS d.s o).2.code ≠ 0) : doD d o = ((doD d o).1, .error (doS d.s o).2.code) := by
 unfold doD
 rw [if_neg h]
theorem answer_ok {d : Dk} {l : List ByteArray} (hd : dkOk d) (hl : wdOk l) (hn : l ≠ []) : AnOk d l := by
 cases l with
 | nil => exact absurd rfl hn
 | cons w r =>
 have hw : (w :: r)[0]? = some w := rfl
 have hask := asksD_ok w (w :: r) 1
 have hai := asksD_is w (w :: r) 1
 cases hA : asksD w (w :: r) 1 with
 | bad e =>
  rw [hA] at hask
  exact an_mk (ansD_err (by simp only [lineD, hA]; rfl)) (an_askBad hl hw hA (er_I hask))
 | got c j =>
  rw [hA] at hask hai
  by_cases hj : j = (w :: r).length
  ·subst hj
   have hline : lineD d (w :: r) = clD d c := by rw [line_got hA, if_pos rfl]
   cases c with
   | op o =>
    by_cases hc : (doS d.s o).2.code = 0
    ·obtain ⟨s', ⟨c, vs, ids, ns⟩, e⟩ : ∃ s' t', doS d.s o = (s', t') := ⟨_, _, rfl⟩
     rw [e] at hc
     simp only at hc
     subst hc
     exact an_mk (d' := (doD d o).1) (ansD_res (by rw [hline]; show doD d o = _; rw [doD_of e])) (anOp_ok hl hw hA hd hask.1 e)
    ·exact an_mk (ansD_err (by rw [hline]; exact doD_bad hc)) (anOp_bad hl hw hA hd hc)
   | rule rl =>
    by_cases hc : (doS d.s (rlO d rl)).2.code = 0
    ·obtain ⟨s', ⟨c, vs, ids, ns⟩, e⟩ : ∃ s' t', doS d.s (rlO d rl) = (s', t') := ⟨_, _, rfl⟩
     rw [e] at hc
     simp only at hc
     subst hc
     exact an_mk (d' := { (doD d (rlO d rl)).1 with rs := d.rs ++ [rl] }) (ansD_res (by rw [hline]; simp only [clD]; rw [show doD d { opO 1 ⟨0, 0, 0⟩ with rs := d.rs ++ [rl] } = _ from doD_of e])) (anRule_ok hl hw hA hd e)
    ·exact an_mk (ansD_err (by rw [hline]; simp only [clD]; rw [show doD d { opO 1 ⟨0, 0, 0⟩ with rs := d.rs ++ [rl] } = _ from doD_bad hc])) (anRule_bad hl hw hA hd hc)
   | _ => exact hai.elim
  ·have hline : lineD d (w :: r) = (d, .error 10) := by rw [line_got hA, if_neg hj]
   cases c with
   | op o => exact an_mk (ansD_err hline) (anOp_end hl hw hA hj)
   | rule rl => exact an_mk (ansD_err hline) (anRule_end hl hw hA hj)
   | _ => exact hai.elim
 | none =>
  have hoth := othersD_ok w (w :: r) 1 (by simp)
  have hoi := othersD_is w (w :: r) 1
  cases hO : othersD w (w :: r) 1 with
  | bad e =>
   rw [hO] at hoth
   exact an_mk (ansD_err (by simp only [lineD, hA]; rw [hO]; rfl)) (an_othBad hl hw hA hO (er_I hoth))
  | none => exact (othersD_some w (w :: r) 1 hO).elim
  | got c j =>
   rw [hO] at hoth hoi
   by_cases hj : j = (w :: r).length
   ·subst hj
    have hline : lineD d (w :: r) = clD d c := by rw [line_oth hA hO, if_pos rfl]
    cases c with
    | role m =>
     by_cases h : chkUp (d.up ++ [m]) = 0
     ·exact an_mk (ansD_res (by rw [hline]; exact if_pos h)) (anRole_ok hl hw hA hO hd h)
     ·exact an_mk (ansD_err (by rw [hline]; exact if_neg h)) (anRole_bad hl hw hA hO hd h)
    | below a b c e =>
     by_cases h : (okLab a b && okLab c e) = true
     ·exact an_mk (ansD_res (by rw [hline]; simp only [clD]; rw [if_pos h])) (anBelow_ok hl hw hA hO h)
     ·exact an_mk (ansD_err (by rw [hline]; simp only [clD]; rw [if_neg h])) (anBelow_bad hl hw hA hO h)
    | send i n =>
     by_cases h : sendE d.g i n = 0
     ·obtain ⟨p, k, hi, hn, hp, hk⟩ : ∃ p k : Nat, i = ((p + 1 : Nat) : Int) ∧ n = (k : Int) ∧ p + 1 < d.g.n ∧ k ≤ d.g.log.length := by
       unfold sendE at h
       split at h
       ·split at h
        ·omega
        ·exact ⟨(i - 1).toNat, n.toNat, by omega, by omega, by omega, by omega⟩
       ·omega
      have ep : (i - 1).toNat = p := by omega
      have ek : n.toNat = k := by omega
      by_cases ht : tkE d.g p k (d.g.log.drop k) = 0
      ·exact an_mk (ansD_res (by rw [hline]; simp only [clD]; rw [if_pos h, ep, ek, if_pos ht])) (anSend_ok hl hw hA hO hd hi hn hp hk ht)
      ·exact an_mk (ansD_err (by rw [hline]; simp only [clD]; rw [if_pos h, ep, ek, if_neg ht])) (anSend_bad2 hl hw hA hO hd hi hn hp hk ht)
     ·exact an_mk (ansD_err (by rw [hline]; exact if_neg h)) (anSend_bad hl hw hA hO hd h)
    | ack i n =>
     by_cases h : ackE d.g i n = 0
     ·exact an_mk (ansD_res (by rw [hline]; exact if_pos h)) (anAck_ok hl hw hA hO hd h)
     ·exact an_mk (ansD_err (by rw [hline]; exact if_neg h)) (anAck_bad hl hw hA hO hd h)
    | sure => exact an_mk (ansD_res (by rw [hline]; rfl)) (anSure_ok hl hw hA hO hd)
    | _ => exact hoi.elim
   ·have hline : lineD d (w :: r) = (d, .error 10) := by rw [line_oth hA hO, if_neg hj]
    cases c with
    | role m => exact an_mk (ansD_err hline) (anRole_end hl hw hA hO hj)
    | below a b c e => exact an_mk (ansD_err hline) (anBelow_end hl hw hA hO hj)
    | send i n => exact an_mk (ansD_err hline) (anSend_end hl hw hA hO hj)
    | ack i n => exact an_mk (ansD_err hline) (anAck_end hl hw hA hO hj)
    | sure => exact an_mk (ansD_err hline) (anSure_end hl hw hA hO hj)
    | _ => exact hoi.elim
end Go.Proofs.YtonolfpnidaflaaGreatDoor.E

namespace Go.Proofs.YtonolfpnidaflaaGreatDoor.E
open Go
set_option linter.unusedSimpArgs false
set_option linter.unusedVariables false
set_option linter.unusedSectionVars false
set_option maxRecDepth 20000
set_option maxHeartbeats 8000000
theorem ss_take (l : List ByteArray) : List.take l.length (ss1 l) = ss1 l := List.take_of_length_le (by simp [ss1])
theorem answer_lend {d : Dk} {l : List ByteArray} (hd : dkOk d) (hl : wdOk l) (hn : l ≠ []) :
  ∃ v v6 v7, OkH Tryz.prog 56 [.ptr (.e 0) 0 0, .own (.e 8) 0 1 0 l.length] (dkH d [.row 9 1 none (ss1 l)]) (S (bs (ansD d l).2)) (dkV (ansD d l).1 v v6 v7 [(0, .ice 1 (ss1 l))]) := by
 obtain ⟨v, v6, v7, h⟩ := answer_ok hd hl hn
 refine ⟨v, v6, v7, OkH.lend [.e 0, .e 1, .e 2, .e 3, .e 4, .e 5, .e 6, .e 7] h (y' := strs l) (hp1 := hpE 0 ((dkH d [.ice 1 (ss1 l)]).map fun b => (0, b))) ?_ ?_ ?_ ?_ ?_ ?_ ?_⟩
 ·simp +decide -implicitDefEqProofs only [S0, simprocAttr, ss_take]
 ·decide
 ·simp +decide -implicitDefEqProofs only [S0, simprocAttr]
 ·simp +decide -implicitDefEqProofs only [S0, simprocAttr, gfs]
 ·simp +decide -implicitDefEqProofs only [S0, simprocAttr, gfs]
 ·simp +decide -implicitDefEqProofs only [S0, simprocAttr, gfs]
 ·intro s
  simp +decide -implicitDefEqProofs only [S0, simprocAttr, gfs]
/-- A piece that counts aS a word. -/
def wdB1 (s : ByteArray) : Bool := decide (s ≠ ⟨#[]⟩)
def keepW (l : List ByteArray) : List ByteArray := l.filter wdB1
theorem keepW_words (l : List UInt8) : keepW ((splitC 32 l).map bs) = wordsL l := by
 unfold keepW wordsL
 rw [List.filter_map]
 congr 1
 refine List.filter_congr fun x _ => ?_
 unfold wdB1
 simp only [Function.comp, decide_eq_decide]
 exact ⟨fun h e => h (by rw [e]; rfl), fun h e => h (by have := congrArg (fun b : ByteArray => b.data.toList) e; simpa [bs] using this)⟩
/-- Where Run stands: the next line, the desk, what is written, whether the builder has been used. -/
structure RnS where
 k : Nat
 d : Dk
 o : List UInt8
 u : Bool
abbrev rnP (u : Bool) : AV := cond u (.ptr (.l 10) 1 0) (.val (.pointer none))
abbrev rnH (d : Dk) (o : List UInt8) (u : Bool) (r : Hp) : Hp :=
 (.l 49, 1, .cells 110 [.ptr (.l 39) 1 0, .ptr (.l 43) 1 0, ints d.up, rules d.rs]) :: (.l 39, 1, .cells 131 [I d.g.n, .own (.m 39 0) 1 1 0 d.g.log.length, .own (.m 39 1) 1 1 0 d.g.n, .own (.m 39 3) 1 1 0 d.g.n]) :: (.m 39 0, 1, .row 9 1 none (ss1 d.g.log)) ::
  (.m 39 1, 1, .cells 33 (.own (.m 39 2) 1 1 0 d.g.log.length :: fols d.g.fol)) :: (.m 39 2, 1, .row 9 1 none (ss1 d.g.log)) :: (.m 39 3, 1, .row 3 1 (some d.g.n) (is1 d.g.ack)) ::
  (.l 43, 1, .cells 86 [ints d.s.up, rules d.s.rs, vers d.s.l, .own (.m 43 0) 1 4 0 d.s.notes.length]) :: (.m 43 0, 1, .row 93 4 none (d.s.notes.map ntC)) ::
  (.l 10, 1, .cells 114 [rnP u, .own (.l 85) 0 1 0 o.length]) :: (.l 85, 0, .row 5 1 none (byR o)) :: r
def rnC : Nat := 4200001
theorem rnC_eq : rnC = 4200001 := rfl
def rnLe (o : List UInt8) (k : Nat) : Prop := o.length ≤ k * rnC
theorem rnLe_0 : rnLe [] 0 := Nat.zero_le _
theorem rnLe_up {o : List UInt8} {k : Nat} (h : rnLe o k) : rnLe o (k + 1) := by
 unfold rnLe at h ⊢
 rw [Nat.succ_mul]
 omega
theorem rnLe_add {o x : List UInt8} {k : Nat} (h : rnLe o k) (hx : x.length ≤ 4200000) : rnLe (o ++ x ++ [10]) (k + 1) := by
 unfold rnLe at h ⊢
 rw [List.length_append, List.length_append, List.length_singleton, Nat.succ_mul]
 have := rnC_eq
 omega
theorem rnLe_max {o : List UInt8} {k : Nat} (h : rnLe o k) (hk : k ≤ 200) : o.length ≤ 900000000 := by
 unfold rnLe at h
 have h2 : k * rnC ≤ 200 * rnC := Nat.mul_le_mul_right _ hk
 have := rnC_eq
 omega
/-- What is still to be answered behind line k. -/
def restL (L : List (List UInt8)) (k : Nat) : List (List ByteArray) := ((L.drop k).map wordsL).filter keepL
theorem restL_step {L : List (List UInt8)} {k : Nat} {x : List UInt8} (h : L[k]? = some x) : restL L k = if keepL (wordsL x) then wordsL x :: restL L (k + 1) else restL L (k + 1) := by
 unfold restL
 have hk : k < L.length := (List.getElem?_eq_some_iff.1 h).1
 rw [List.drop_eq_getElem_cons hk]
 have e : L[k] = x := (List.getElem?_eq_some_iff.1 h).2
 rw [e, List.map_cons, List.filter_cons]
theorem lines_mem {l y : List UInt8} (h : y ∈ linesL l) : y.length ≤ l.length := by
 unfold linesL at h
 split at h
 ·exact splitC_len ((List.dropLast_sublist _).subset h)
 ·exact splitC_len h
theorem keepW_snoc {P : List ByteArray} {j : Nat} {z : ByteArray} (h : P[j]? = some z) : keepW (P.take (j + 1)) = if wdB1 z then keepW (P.take j) ++ [z] else keepW (P.take j) := by
 unfold keepW
 rw [take_get h, List.filter_append]
 by_cases hz : wdB1 z = true
 ·simp [hz]
 ·simp [hz]
theorem restL_end (L : List (List UInt8)) {k : Nat} (h : L.length ≤ k) : restL L k = [] := by
 unfold restL
 rw [List.drop_eq_nil_of_le h]
 rfl
theorem Run_ok (s : ByteArray) (hs : s.size ≤ 4000000) : Ok Tryz.prog 18 [S s] (S (bs (runD s.data.toList))) := by
 have hsz := size_len s
 obtain ⟨L, hL⟩ : ∃ L, L = linesL s.data.toList := ⟨_, rfl⟩
 have hcnt := splitC_cnt 10 s.data.toList
 have hne := splitC_ne 10 s.data.toList
 obtain ⟨N, hN⟩ : ∃ N, (splitC 10 s.data.toList).length = N + 1 := by
  cases e : splitC 10 s.data.toList with
  | nil => exact absurd e hne
  | cons a b => exact ⟨b.length, rfl⟩
 have hNl : (N : Int) < ((N + 1 : Nat) : Int) := by omega
 have hw1 : IntKind.i64.wrap (((N + 1 : Nat) : Int) - 1) = (N : Int) := by rw [wr_i64 (by omega) (by omega)]; omega
 obtain ⟨x, hx⟩ : ∃ x, (splitC 10 s.data.toList)[N]? = some x := ⟨_, List.getElem?_eq_getElem (by omega)⟩
 have hlast : (splitC 10 s.data.toList).getLast? = some x := by rw [List.getLast?_eq_getElem?, hN]; exact hx
 have hx2 : ((splitC 10 s.data.toList).map bs)[N]? = some (bs x) := by rw [List.getElem?_map, hx]; rfl
 have hlen2 : ((splitC 10 s.data.toList).map bs).length = N + 1 := by rw [List.length_map, hN]
 obtain ⟨Q, hQ⟩ : ∃ Q, Q = (splitC 10 s.data.toList).map bs := ⟨_, rfl⟩
 rw [← hQ] at hx2 hlen2
 refine Ok.of_wp (rs := [.tmp 2]) (n := 86) Tryz.func18 rfl rfl rfl (by simp) fo (by kernel_rfl) ?_
 simp +decide -implicitDefEqProofs only [S0, simprocAttr]
 refine call_eq (Split_ok s 10 (by omega)) ?_
 rw [← hQ]
 by_cases h0 : x = []
 ·have hb : decide (bs x = ⟨#[]⟩) = true := decide_eq_true (by rw [h0]; rfl)
  have hLQ : List.take N (Q.map fun s => [S s]) = (L.map bs).map fun s => [S s] := by
   rw [hL, hQ]
   unfold linesL
   rw [hlast, h0, if_pos rfl, List.dropLast_eq_take, hN, ← List.map_take, ← List.map_take]
   rfl
  have hLn : L.length = N := by
   rw [hL]
   unfold linesL
   rw [hlast, h0, if_pos rfl, List.length_dropLast, hN]
   rfl
  simp +decide -implicitDefEqProofs only [S0, simprocAttr, hlen2, hw1, hNl, hx2, toList_beq, hb, hLQ]
  refine ⟨by omega, ?_⟩
  by_cases hr : 65536 < s.data.toList.length ∨ 200 < L.length
  ·have hrun : runD s.data.toList = err2 := by unfold runD; rw [if_pos (hL ▸ hr)]
   rw [hrun]
   rcases hr with hr | hr
   ·rw [if_pos (by omega)]
    rfl
   ·by_cases hA : (s.size : Int) > 65536
    ·rw [if_pos hA]
     rfl
    ·rw [if_neg hA, if_pos (by omega)]
     rfl
  ·rw [if_neg (by omega), if_neg (by omega)]
   refine callH (grNew_ok (n := 3) (by decide) (by decide)) [.l 39, .m 39 0, .m 39 1, .m 39 2, .m 39 3] ?_
   simp +decide -implicitDefEqProofs only [S0, simprocAttr, gfs]
   refine callH (srvNew_ok (up := []) (by decide)) [.l 43, .m 43 0] ?_
   simp +decide -implicitDefEqProofs only [S0, simprocAttr, gfs]
   have hF : runD s.data.toList = (ansAll dk0 (restL L 0)).flatten := by
    unfold runD
    rw [if_neg (hL ▸ hr)]
    unfold scriptL restL
    rw [hL, List.drop_zero]
   rw [hF]
   refine ALoop.st [9, 10, 50, 51, 52] (fun (q : RnS) => [.ptr (.l 49) 1 0, .ptr (.l 10) 1 0, strs (L.map bs), I L.length, I q.k]) (fun q => rnH q.d q.o q.u []) (fun q => q.k ≤ L.length ∧ dkOk q.d ∧ rnLe q.o q.k ∧ q.o ++ (ansAll q.d (restL L q.k)).flatten = (ansAll dk0 (restL L 0)).flatten) (fun q => L.length - q.k) [.l 85] ⟨0, dk0, [], false⟩ (by simp +decide -implicitDefEqProofs only [S0, simprocAttr, List.length_map]; try rfl) (by simp +decide -implicitDefEqProofs only [S0, simprocAttr, gfs, dk0, gNew, rnP, cond_false]) ⟨by simp, dk0_ok, rnLe_0, by simp⟩ ?_
   rintro ⟨k, d, o, u⟩ ⟨hk, hd, ho, hq⟩
   simp only at hk hd ho hq
   have hL200 : L.length ≤ 200 := by omega
   have ho2 := rnLe_max ho (by omega)
   by_cases hlt : k < L.length
   ·have h' : (k : Int) < L.length := by omega
    obtain ⟨y, hy⟩ := lt_get hlt
    have hy2 : (L.map bs)[k]? = some (bs y) := by rw [List.getElem?_map, hy]; rfl
    have hyl : y.length ≤ 65536 := by
     have := lines_mem (hL ▸ List.mem_of_getElem? hy)
     omega
    have hwk := wordsL_ok (l := y) (by omega)
    have hst := restL_step hy
    have hwr := wr_add1 h' (by omega)
    have hPc := splitC_cnt 32 y
    obtain ⟨P, hP⟩ : ∃ P, P = (splitC 32 y).map bs := ⟨_, rfl⟩
    have hPl : P.length ≤ 65537 := by rw [hP, List.length_map]; omega
    have hKW : keepW P = wordsL y := by rw [hP]; exact keepW_words y
    rcases u with _ | _
    ·simp +decide -implicitDefEqProofs only [S0, simprocAttr, h', hy, hy2, Option.map_some, List.getElem?_map, rnP, cond_false, cond_true]
     refine call_eq (Split_ok (bs y) 32 (by rw [bs_size]; omega)) ?_
     rw [bs_list, ← hP]
     simp +decide -implicitDefEqProofs only [S0, simprocAttr]
     refine ALoop.st [9, 10, 50, 51, 52, 13, 57, 58, 59] (fun (j : Nat) => [.ptr (.l 49) 1 0, .ptr (.l 10) 1 0, strs (L.map bs), I L.length, I k, .own (.l 68) 0 1 0 (keepW (P.take j)).length, strs P, I P.length, I j]) (fun j => rnH d o false [(.l 68, 0, .row 9 1 none (ss1 (keepW (P.take j))))]) (fun j => j ≤ P.length) (fun j => P.length - j) [.l 68] 0 (by simp +decide -implicitDefEqProofs only [S0, simprocAttr, List.length_map, List.take_zero, keepW, List.filter_nil, List.length_nil]; try rfl) (by simp +decide -implicitDefEqProofs only [S0, simprocAttr, gfs, List.take_zero, keepW, List.filter_nil, rnP, cond_false, cond_true]) (by omega) ?_
     intro j hj
     by_cases hjl : j < P.length
     ·have hj' : (j : Int) < P.length := by omega
      obtain ⟨z, hz⟩ := lt_get hjl
      have hkn := keepW_snoc hz
      have hwj := wr_add1 hj' (by omega)
      have hkl : (keepW (P.take j)).length ≤ j := Nat.le_trans (List.length_filter_le _ _) (by rw [List.length_take]; omega)
      by_cases hbz : z = ⟨#[]⟩
      ·have hd1 : decide (z = ⟨#[]⟩) = true := decide_eq_true hbz
       rw [if_neg (by unfold wdB1; simp [hbz])] at hkn
       simp +decide -implicitDefEqProofs only [S0, simprocAttr, hj', hz, toList_beq, hd1, rnP, cond_false, cond_true]
       exact Nxt.mk [] (j + 1) (by simp +decide -implicitDefEqProofs only [S0, simprocAttr, hwj, hkn]) (by simp +decide -implicitDefEqProofs only [S0, simprocAttr, gfs, hkn, rnP, cond_false, cond_true]) (by omega) (by omega)
      ·have hd1 : decide (z = ⟨#[]⟩) = false := decide_eq_false hbz
       rw [if_pos (by unfold wdB1; simp [hbz])] at hkn
       have hka : List.take (keepW (P.take j)).length (ss1 (keepW (P.take j))) = ss1 (keepW (P.take j)) := ss_take _
       simp +decide -implicitDefEqProofs only [S0, simprocAttr, hj', hz, toList_beq, hd1, hka, rnP, cond_false, cond_true]
       refine ⟨by omega, ?_⟩
       exact Nxt.mk [] (j + 1) (by simp +decide -implicitDefEqProofs only [S0, simprocAttr, hwj, hkn, List.length_append, List.length_singleton]) (by simp +decide -implicitDefEqProofs only [S0, simprocAttr, gfs, hkn, rnP, cond_false, cond_true, List.map_append]; try simp) (by omega) (by omega)
     ·have hj' : ¬ (j : Int) < P.length := by omega
      have hKE : keepW (P.take j) = wordsL y := by rw [List.take_of_length_le (by omega)]; exact hKW
      obtain ⟨W, hW⟩ : ∃ W, W = wordsL y := ⟨_, rfl⟩
      rw [← hW] at hst hwk
      simp +decide -implicitDefEqProofs only [S0, simprocAttr, hj', hKE, rnP, cond_false, cond_true]
      rw [← hW]
      by_cases hW0 : W = []
      ·have hst2 : restL L k = restL L (k + 1) := by rw [hst, if_neg (by rw [hW0]; simp [keepL])]
       rw [if_pos (by rw [hW0]; rfl)]
       exact Nxt.mk [] ⟨k + 1, d, o, false⟩ (by simp +decide -implicitDefEqProofs only [S0, simprocAttr, hwr]) (by simp +decide -implicitDefEqProofs only [S0, simprocAttr, gfs, rnP, cond_false, cond_true]) ⟨by simp only; omega, hd, rnLe_up ho, by simp only; rw [← hst2]; exact hq⟩ (by simp only; omega)
      ·obtain ⟨w, r, hWr⟩ : ∃ w r, W = w :: r := by
        cases hc : W with
        | nil => exact absurd hc hW0
        | cons w r => exact ⟨w, r, rfl⟩
       have hw0 : W[0]? = some w := by rw [hWr]; rfl
       have hwp : (0 : Int) < W.length := by rw [hWr, List.length_cons]; omega
       have hwz : ¬ ((W.length : Int) = 0) := by omega
       rw [if_neg hwz]
       by_cases hsh : w = ⟨#[35]⟩
       ·have hds : decide (w = ⟨#[35]⟩) = true := decide_eq_true hsh
        have hst2 : restL L k = restL L (k + 1) := by rw [hst, if_neg (by rw [hWr]; simp [keepL, hsh])]
        simp +decide -implicitDefEqProofs only [S0, simprocAttr, hwp, hw0, toList_beq, hds, Option.map_some]
        exact Nxt.mk [] ⟨k + 1, d, o, false⟩ (by simp +decide -implicitDefEqProofs only [S0, simprocAttr, hwr]) (by simp +decide -implicitDefEqProofs only [S0, simprocAttr, gfs, rnP, cond_false, cond_true]) ⟨by simp only; omega, hd, rnLe_up ho, by simp only; rw [← hst2]; exact hq⟩ (by simp only; omega)
       ·have hds : decide (w = ⟨#[35]⟩) = false := decide_eq_false hsh
        have hst2 : restL L k = W :: restL L (k + 1) := by rw [hst, if_pos (by rw [hWr]; simp [keepL, hsh])]
        obtain ⟨v, v6, v7, han⟩ := answer_lend hd hwk hW0
        obtain ⟨hd', hano⟩ := ansD_ok (l := W) hd
        have hal := hano.len
        have hal2 : (bs (ansD d W).2).size ≤ 4200000 := by rw [bs_size]; exact hal
        rw [hst2] at hq
        simp +decide -implicitDefEqProofs only [S0, simprocAttr, hwp, hw0, toList_beq, hds, Option.map_some]
        refine callH han [.l 49, .l 39, .m 39 0, .m 39 1, .m 39 2, .m 39 3, .l 43, .m 43 0, .l 68] ?_
        simp +decide -implicitDefEqProofs only [S0, simprocAttr, gfs, rnP, cond_false, cond_true]
        refine callH (bdWrite_ok (.inl rfl) o (bs (ansD d W).2) (by omega)) [.l 10, .l 85] ?_
        simp +decide -implicitDefEqProofs only [S0, simprocAttr, gfs, bs_list]
        refine callH (bdByte_ok (o ++ (ansD d W).2) (by rw [List.length_append]; omega)) [.l 10, .l 85] ?_
        simp +decide -implicitDefEqProofs only [S0, simprocAttr, gfs]
        exact Nxt.mk [] ⟨k + 1, (ansD d W).1, o ++ (ansD d W).2 ++ [10], true⟩ (by simp +decide -implicitDefEqProofs only [S0, simprocAttr, hwr]) (by simp +decide -implicitDefEqProofs only [S0, simprocAttr, gfs, rnP, cond_false, cond_true, or_true, and_true]) ⟨by simp only; omega, hd', rnLe_add ho hal, by simp only; rw [← hq]; simp only [ansAll, List.flatten_cons, List.append_assoc]⟩ (by simp only; omega)
    ·simp +decide -implicitDefEqProofs only [S0, simprocAttr, h', hy, hy2, Option.map_some, List.getElem?_map, rnP, cond_false, cond_true]
     refine call_eq (Split_ok (bs y) 32 (by rw [bs_size]; omega)) ?_
     rw [bs_list, ← hP]
     simp +decide -implicitDefEqProofs only [S0, simprocAttr]
     refine ALoop.st [9, 10, 50, 51, 52, 13, 57, 58, 59] (fun (j : Nat) => [.ptr (.l 49) 1 0, .ptr (.l 10) 1 0, strs (L.map bs), I L.length, I k, .own (.l 68) 0 1 0 (keepW (P.take j)).length, strs P, I P.length, I j]) (fun j => rnH d o true [(.l 68, 0, .row 9 1 none (ss1 (keepW (P.take j))))]) (fun j => j ≤ P.length) (fun j => P.length - j) [.l 68] 0 (by simp +decide -implicitDefEqProofs only [S0, simprocAttr, List.length_map, List.take_zero, keepW, List.filter_nil, List.length_nil]; try rfl) (by simp +decide -implicitDefEqProofs only [S0, simprocAttr, gfs, List.take_zero, keepW, List.filter_nil, rnP, cond_false, cond_true]) (by omega) ?_
     intro j hj
     by_cases hjl : j < P.length
     ·have hj' : (j : Int) < P.length := by omega
      obtain ⟨z, hz⟩ := lt_get hjl
      have hkn := keepW_snoc hz
      have hwj := wr_add1 hj' (by omega)
      have hkl : (keepW (P.take j)).length ≤ j := Nat.le_trans (List.length_filter_le _ _) (by rw [List.length_take]; omega)
      by_cases hbz : z = ⟨#[]⟩
      ·have hd1 : decide (z = ⟨#[]⟩) = true := decide_eq_true hbz
       rw [if_neg (by unfold wdB1; simp [hbz])] at hkn
       simp +decide -implicitDefEqProofs only [S0, simprocAttr, hj', hz, toList_beq, hd1, rnP, cond_false, cond_true]
       exact Nxt.mk [] (j + 1) (by simp +decide -implicitDefEqProofs only [S0, simprocAttr, hwj, hkn]) (by simp +decide -implicitDefEqProofs only [S0, simprocAttr, gfs, hkn, rnP, cond_false, cond_true]) (by omega) (by omega)
      ·have hd1 : decide (z = ⟨#[]⟩) = false := decide_eq_false hbz
       rw [if_pos (by unfold wdB1; simp [hbz])] at hkn
       have hka : List.take (keepW (P.take j)).length (ss1 (keepW (P.take j))) = ss1 (keepW (P.take j)) := ss_take _
       simp +decide -implicitDefEqProofs only [S0, simprocAttr, hj', hz, toList_beq, hd1, hka, rnP, cond_false, cond_true]
       refine ⟨by omega, ?_⟩
       exact Nxt.mk [] (j + 1) (by simp +decide -implicitDefEqProofs only [S0, simprocAttr, hwj, hkn, List.length_append, List.length_singleton]) (by simp +decide -implicitDefEqProofs only [S0, simprocAttr, gfs, hkn, rnP, cond_false, cond_true, List.map_append]; try simp) (by omega) (by omega)
     ·have hj' : ¬ (j : Int) < P.length := by omega
      have hKE : keepW (P.take j) = wordsL y := by rw [List.take_of_length_le (by omega)]; exact hKW
      obtain ⟨W, hW⟩ : ∃ W, W = wordsL y := ⟨_, rfl⟩
      rw [← hW] at hst hwk
      simp +decide -implicitDefEqProofs only [S0, simprocAttr, hj', hKE, rnP, cond_false, cond_true]
      rw [← hW]
      by_cases hW0 : W = []
      ·have hst2 : restL L k = restL L (k + 1) := by rw [hst, if_neg (by rw [hW0]; simp [keepL])]
       rw [if_pos (by rw [hW0]; rfl)]
       exact Nxt.mk [] ⟨k + 1, d, o, true⟩ (by simp +decide -implicitDefEqProofs only [S0, simprocAttr, hwr]) (by simp +decide -implicitDefEqProofs only [S0, simprocAttr, gfs, rnP, cond_false, cond_true]) ⟨by simp only; omega, hd, rnLe_up ho, by simp only; rw [← hst2]; exact hq⟩ (by simp only; omega)
      ·obtain ⟨w, r, hWr⟩ : ∃ w r, W = w :: r := by
        cases hc : W with
        | nil => exact absurd hc hW0
        | cons w r => exact ⟨w, r, rfl⟩
       have hw0 : W[0]? = some w := by rw [hWr]; rfl
       have hwp : (0 : Int) < W.length := by rw [hWr, List.length_cons]; omega
       have hwz : ¬ ((W.length : Int) = 0) := by omega
       rw [if_neg hwz]
       by_cases hsh : w = ⟨#[35]⟩
       ·have hds : decide (w = ⟨#[35]⟩) = true := decide_eq_true hsh
        have hst2 : restL L k = restL L (k + 1) := by rw [hst, if_neg (by rw [hWr]; simp [keepL, hsh])]
        simp +decide -implicitDefEqProofs only [S0, simprocAttr, hwp, hw0, toList_beq, hds, Option.map_some]
        exact Nxt.mk [] ⟨k + 1, d, o, true⟩ (by simp +decide -implicitDefEqProofs only [S0, simprocAttr, hwr]) (by simp +decide -implicitDefEqProofs only [S0, simprocAttr, gfs, rnP, cond_false, cond_true]) ⟨by simp only; omega, hd, rnLe_up ho, by simp only; rw [← hst2]; exact hq⟩ (by simp only; omega)
       ·have hds : decide (w = ⟨#[35]⟩) = false := decide_eq_false hsh
        have hst2 : restL L k = W :: restL L (k + 1) := by rw [hst, if_pos (by rw [hWr]; simp [keepL, hsh])]
        obtain ⟨v, v6, v7, han⟩ := answer_lend hd hwk hW0
        obtain ⟨hd', hano⟩ := ansD_ok (l := W) hd
        have hal := hano.len
        have hal2 : (bs (ansD d W).2).size ≤ 4200000 := by rw [bs_size]; exact hal
        rw [hst2] at hq
        simp +decide -implicitDefEqProofs only [S0, simprocAttr, hwp, hw0, toList_beq, hds, Option.map_some]
        refine callH han [.l 49, .l 39, .m 39 0, .m 39 1, .m 39 2, .m 39 3, .l 43, .m 43 0, .l 68] ?_
        simp +decide -implicitDefEqProofs only [S0, simprocAttr, gfs, rnP, cond_false, cond_true]
        refine callH (bdWrite_ok (.inr rfl) o (bs (ansD d W).2) (by omega)) [.l 10, .l 85] ?_
        simp +decide -implicitDefEqProofs only [S0, simprocAttr, gfs, bs_list]
        refine callH (bdByte_ok (o ++ (ansD d W).2) (by rw [List.length_append]; omega)) [.l 10, .l 85] ?_
        simp +decide -implicitDefEqProofs only [S0, simprocAttr, gfs]
        exact Nxt.mk [] ⟨k + 1, (ansD d W).1, o ++ (ansD d W).2 ++ [10], true⟩ (by simp +decide -implicitDefEqProofs only [S0, simprocAttr, hwr]) (by simp +decide -implicitDefEqProofs only [S0, simprocAttr, gfs, rnP, cond_false, cond_true, or_true, and_true]) ⟨by simp only; omega, hd', rnLe_add ho hal, by simp only; rw [← hq]; simp only [ansAll, List.flatten_cons, List.append_assoc]⟩ (by simp only; omega)
   ·have h' : ¬ (k : Int) < L.length := by omega
    rw [restL_end L (by omega)] at hq
    have hqo : (ansAll dk0 (restL L 0)).flatten = o := by rw [← hq]; simp [ansAll]
    rw [hqo]
    rcases u with _ | _
    ·simp +decide -implicitDefEqProofs only [S0, simprocAttr, h', rnP, cond_false, cond_true]
     refine callH (bdString_ok (p := .val (.pointer none)) o) [.l 10, .l 85] ?_
     simp +decide -implicitDefEqProofs only [S0, simprocAttr, gfs, rnP, cond_false, cond_true]
    ·simp +decide -implicitDefEqProofs only [S0, simprocAttr, h', rnP, cond_false, cond_true]
     refine callH (bdString_ok (p := .ptr (.e 0) 0 0) o) [.l 10, .l 85] ?_
     simp +decide -implicitDefEqProofs only [S0, simprocAttr, gfs, rnP, cond_false, cond_true]
 ·have hb : decide (bs x = ⟨#[]⟩) = false := decide_eq_false (fun e => h0 (by have := congrArg (fun b : ByteArray => b.data.toList) e; simpa [bs] using this))
  have hLQ : Q = L.map bs := by
   rw [hL, hQ]
   unfold linesL
   rw [hlast, if_neg (by simpa using h0)]
  have hLn : L.length = N + 1 := by
   rw [hL]
   unfold linesL
   rw [hlast, if_neg (by simpa using h0), hN]
  simp +decide -implicitDefEqProofs only [S0, simprocAttr, hlen2, hw1, hNl, hx2, toList_beq, hb]
  rw [hLQ]
  refine ?_
  by_cases hr : 65536 < s.data.toList.length ∨ 200 < L.length
  ·have hrun : runD s.data.toList = err2 := by unfold runD; rw [if_pos (hL ▸ hr)]
   rw [hrun]
   rcases hr with hr | hr
   ·rw [if_pos (by omega)]
    rfl
   ·by_cases hA : (s.size : Int) > 65536
    ·rw [if_pos hA]
     rfl
    ·rw [if_neg hA, if_pos (by omega)]
     rfl
  ·rw [if_neg (by omega), if_neg (by omega)]
   refine callH (grNew_ok (n := 3) (by decide) (by decide)) [.l 39, .m 39 0, .m 39 1, .m 39 2, .m 39 3] ?_
   simp +decide -implicitDefEqProofs only [S0, simprocAttr, gfs]
   refine callH (srvNew_ok (up := []) (by decide)) [.l 43, .m 43 0] ?_
   simp +decide -implicitDefEqProofs only [S0, simprocAttr, gfs]
   have hF : runD s.data.toList = (ansAll dk0 (restL L 0)).flatten := by
    unfold runD
    rw [if_neg (hL ▸ hr)]
    unfold scriptL restL
    rw [hL, List.drop_zero]
   rw [hF]
   refine ALoop.st [9, 10, 50, 51, 52] (fun (q : RnS) => [.ptr (.l 49) 1 0, .ptr (.l 10) 1 0, strs (L.map bs), I L.length, I q.k]) (fun q => rnH q.d q.o q.u []) (fun q => q.k ≤ L.length ∧ dkOk q.d ∧ rnLe q.o q.k ∧ q.o ++ (ansAll q.d (restL L q.k)).flatten = (ansAll dk0 (restL L 0)).flatten) (fun q => L.length - q.k) [.l 85] ⟨0, dk0, [], false⟩ (by simp +decide -implicitDefEqProofs only [S0, simprocAttr, List.length_map]; try rfl) (by simp +decide -implicitDefEqProofs only [S0, simprocAttr, gfs, dk0, gNew, rnP, cond_false]) ⟨by simp, dk0_ok, rnLe_0, by simp⟩ ?_
   rintro ⟨k, d, o, u⟩ ⟨hk, hd, ho, hq⟩
   simp only at hk hd ho hq
   have hL200 : L.length ≤ 200 := by omega
   have ho2 := rnLe_max ho (by omega)
   by_cases hlt : k < L.length
   ·have h' : (k : Int) < L.length := by omega
    obtain ⟨y, hy⟩ := lt_get hlt
    have hy2 : (L.map bs)[k]? = some (bs y) := by rw [List.getElem?_map, hy]; rfl
    have hyl : y.length ≤ 65536 := by
     have := lines_mem (hL ▸ List.mem_of_getElem? hy)
     omega
    have hwk := wordsL_ok (l := y) (by omega)
    have hst := restL_step hy
    have hwr := wr_add1 h' (by omega)
    have hPc := splitC_cnt 32 y
    obtain ⟨P, hP⟩ : ∃ P, P = (splitC 32 y).map bs := ⟨_, rfl⟩
    have hPl : P.length ≤ 65537 := by rw [hP, List.length_map]; omega
    have hKW : keepW P = wordsL y := by rw [hP]; exact keepW_words y
    rcases u with _ | _
    ·simp +decide -implicitDefEqProofs only [S0, simprocAttr, h', hy, hy2, Option.map_some, List.getElem?_map, rnP, cond_false, cond_true]
     refine call_eq (Split_ok (bs y) 32 (by rw [bs_size]; omega)) ?_
     rw [bs_list, ← hP]
     simp +decide -implicitDefEqProofs only [S0, simprocAttr]
     refine ALoop.st [9, 10, 50, 51, 52, 13, 57, 58, 59] (fun (j : Nat) => [.ptr (.l 49) 1 0, .ptr (.l 10) 1 0, strs (L.map bs), I L.length, I k, .own (.l 68) 0 1 0 (keepW (P.take j)).length, strs P, I P.length, I j]) (fun j => rnH d o false [(.l 68, 0, .row 9 1 none (ss1 (keepW (P.take j))))]) (fun j => j ≤ P.length) (fun j => P.length - j) [.l 68] 0 (by simp +decide -implicitDefEqProofs only [S0, simprocAttr, List.length_map, List.take_zero, keepW, List.filter_nil, List.length_nil]; try rfl) (by simp +decide -implicitDefEqProofs only [S0, simprocAttr, gfs, List.take_zero, keepW, List.filter_nil, rnP, cond_false, cond_true]) (by omega) ?_
     intro j hj
     by_cases hjl : j < P.length
     ·have hj' : (j : Int) < P.length := by omega
      obtain ⟨z, hz⟩ := lt_get hjl
      have hkn := keepW_snoc hz
      have hwj := wr_add1 hj' (by omega)
      have hkl : (keepW (P.take j)).length ≤ j := Nat.le_trans (List.length_filter_le _ _) (by rw [List.length_take]; omega)
      by_cases hbz : z = ⟨#[]⟩
      ·have hd1 : decide (z = ⟨#[]⟩) = true := decide_eq_true hbz
       rw [if_neg (by unfold wdB1; simp [hbz])] at hkn
       simp +decide -implicitDefEqProofs only [S0, simprocAttr, hj', hz, toList_beq, hd1, rnP, cond_false, cond_true]
       exact Nxt.mk [] (j + 1) (by simp +decide -implicitDefEqProofs only [S0, simprocAttr, hwj, hkn]) (by simp +decide -implicitDefEqProofs only [S0, simprocAttr, gfs, hkn, rnP, cond_false, cond_true]) (by omega) (by omega)
      ·have hd1 : decide (z = ⟨#[]⟩) = false := decide_eq_false hbz
       rw [if_pos (by unfold wdB1; simp [hbz])] at hkn
       have hka : List.take (keepW (P.take j)).length (ss1 (keepW (P.take j))) = ss1 (keepW (P.take j)) := ss_take _
       simp +decide -implicitDefEqProofs only [S0, simprocAttr, hj', hz, toList_beq, hd1, hka, rnP, cond_false, cond_true]
       refine ⟨by omega, ?_⟩
       exact Nxt.mk [] (j + 1) (by simp +decide -implicitDefEqProofs only [S0, simprocAttr, hwj, hkn, List.length_append, List.length_singleton]) (by simp +decide -implicitDefEqProofs only [S0, simprocAttr, gfs, hkn, rnP, cond_false, cond_true, List.map_append]; try simp) (by omega) (by omega)
     ·have hj' : ¬ (j : Int) < P.length := by omega
      have hKE : keepW (P.take j) = wordsL y := by rw [List.take_of_length_le (by omega)]; exact hKW
      obtain ⟨W, hW⟩ : ∃ W, W = wordsL y := ⟨_, rfl⟩
      rw [← hW] at hst hwk
      simp +decide -implicitDefEqProofs only [S0, simprocAttr, hj', hKE, rnP, cond_false, cond_true]
      rw [← hW]
      by_cases hW0 : W = []
      ·have hst2 : restL L k = restL L (k + 1) := by rw [hst, if_neg (by rw [hW0]; simp [keepL])]
       rw [if_pos (by rw [hW0]; rfl)]
       exact Nxt.mk [] ⟨k + 1, d, o, false⟩ (by simp +decide -implicitDefEqProofs only [S0, simprocAttr, hwr]) (by simp +decide -implicitDefEqProofs only [S0, simprocAttr, gfs, rnP, cond_false, cond_true]) ⟨by simp only; omega, hd, rnLe_up ho, by simp only; rw [← hst2]; exact hq⟩ (by simp only; omega)
      ·obtain ⟨w, r, hWr⟩ : ∃ w r, W = w :: r := by
        cases hc : W with
        | nil => exact absurd hc hW0
        | cons w r => exact ⟨w, r, rfl⟩
       have hw0 : W[0]? = some w := by rw [hWr]; rfl
       have hwp : (0 : Int) < W.length := by rw [hWr, List.length_cons]; omega
       have hwz : ¬ ((W.length : Int) = 0) := by omega
       rw [if_neg hwz]
       by_cases hsh : w = ⟨#[35]⟩
       ·have hds : decide (w = ⟨#[35]⟩) = true := decide_eq_true hsh
        have hst2 : restL L k = restL L (k + 1) := by rw [hst, if_neg (by rw [hWr]; simp [keepL, hsh])]
        simp +decide -implicitDefEqProofs only [S0, simprocAttr, hwp, hw0, toList_beq, hds, Option.map_some]
        exact Nxt.mk [] ⟨k + 1, d, o, false⟩ (by simp +decide -implicitDefEqProofs only [S0, simprocAttr, hwr]) (by simp +decide -implicitDefEqProofs only [S0, simprocAttr, gfs, rnP, cond_false, cond_true]) ⟨by simp only; omega, hd, rnLe_up ho, by simp only; rw [← hst2]; exact hq⟩ (by simp only; omega)
       ·have hds : decide (w = ⟨#[35]⟩) = false := decide_eq_false hsh
        have hst2 : restL L k = W :: restL L (k + 1) := by rw [hst, if_pos (by rw [hWr]; simp [keepL, hsh])]
        obtain ⟨v, v6, v7, han⟩ := answer_lend hd hwk hW0
        obtain ⟨hd', hano⟩ := ansD_ok (l := W) hd
        have hal := hano.len
        have hal2 : (bs (ansD d W).2).size ≤ 4200000 := by rw [bs_size]; exact hal
        rw [hst2] at hq
        simp +decide -implicitDefEqProofs only [S0, simprocAttr, hwp, hw0, toList_beq, hds, Option.map_some]
        refine callH han [.l 49, .l 39, .m 39 0, .m 39 1, .m 39 2, .m 39 3, .l 43, .m 43 0, .l 68] ?_
        simp +decide -implicitDefEqProofs only [S0, simprocAttr, gfs, rnP, cond_false, cond_true]
        refine callH (bdWrite_ok (.inl rfl) o (bs (ansD d W).2) (by omega)) [.l 10, .l 85] ?_
        simp +decide -implicitDefEqProofs only [S0, simprocAttr, gfs, bs_list]
        refine callH (bdByte_ok (o ++ (ansD d W).2) (by rw [List.length_append]; omega)) [.l 10, .l 85] ?_
        simp +decide -implicitDefEqProofs only [S0, simprocAttr, gfs]
        exact Nxt.mk [] ⟨k + 1, (ansD d W).1, o ++ (ansD d W).2 ++ [10], true⟩ (by simp +decide -implicitDefEqProofs only [S0, simprocAttr, hwr]) (by simp +decide -implicitDefEqProofs only [S0, simprocAttr, gfs, rnP, cond_false, cond_true, or_true, and_true]) ⟨by simp only; omega, hd', rnLe_add ho hal, by simp only; rw [← hq]; simp only [ansAll, List.flatten_cons, List.append_assoc]⟩ (by simp only; omega)
    ·simp +decide -implicitDefEqProofs only [S0, simprocAttr, h', hy, hy2, Option.map_some, List.getElem?_map, rnP, cond_false, cond_true]
     refine call_eq (Split_ok (bs y) 32 (by rw [bs_size]; omega)) ?_
     rw [bs_list, ← hP]
     simp +decide -implicitDefEqProofs only [S0, simprocAttr]
     refine ALoop.st [9, 10, 50, 51, 52, 13, 57, 58, 59] (fun (j : Nat) => [.ptr (.l 49) 1 0, .ptr (.l 10) 1 0, strs (L.map bs), I L.length, I k, .own (.l 68) 0 1 0 (keepW (P.take j)).length, strs P, I P.length, I j]) (fun j => rnH d o true [(.l 68, 0, .row 9 1 none (ss1 (keepW (P.take j))))]) (fun j => j ≤ P.length) (fun j => P.length - j) [.l 68] 0 (by simp +decide -implicitDefEqProofs only [S0, simprocAttr, List.length_map, List.take_zero, keepW, List.filter_nil, List.length_nil]; try rfl) (by simp +decide -implicitDefEqProofs only [S0, simprocAttr, gfs, List.take_zero, keepW, List.filter_nil, rnP, cond_false, cond_true]) (by omega) ?_
     intro j hj
     by_cases hjl : j < P.length
     ·have hj' : (j : Int) < P.length := by omega
      obtain ⟨z, hz⟩ := lt_get hjl
      have hkn := keepW_snoc hz
      have hwj := wr_add1 hj' (by omega)
      have hkl : (keepW (P.take j)).length ≤ j := Nat.le_trans (List.length_filter_le _ _) (by rw [List.length_take]; omega)
      by_cases hbz : z = ⟨#[]⟩
      ·have hd1 : decide (z = ⟨#[]⟩) = true := decide_eq_true hbz
       rw [if_neg (by unfold wdB1; simp [hbz])] at hkn
       simp +decide -implicitDefEqProofs only [S0, simprocAttr, hj', hz, toList_beq, hd1, rnP, cond_false, cond_true]
       exact Nxt.mk [] (j + 1) (by simp +decide -implicitDefEqProofs only [S0, simprocAttr, hwj, hkn]) (by simp +decide -implicitDefEqProofs only [S0, simprocAttr, gfs, hkn, rnP, cond_false, cond_true]) (by omega) (by omega)
      ·have hd1 : decide (z = ⟨#[]⟩) = false := decide_eq_false hbz
       rw [if_pos (by unfold wdB1; simp [hbz])] at hkn
       have hka : List.take (keepW (P.take j)).length (ss1 (keepW (P.take j))) = ss1 (keepW (P.take j)) := ss_take _
       simp +decide -implicitDefEqProofs only [S0, simprocAttr, hj', hz, toList_beq, hd1, hka, rnP, cond_false, cond_true]
       refine ⟨by omega, ?_⟩
       exact Nxt.mk [] (j + 1) (by simp +decide -implicitDefEqProofs only [S0, simprocAttr, hwj, hkn, List.length_append, List.length_singleton]) (by simp +decide -implicitDefEqProofs only [S0, simprocAttr, gfs, hkn, rnP, cond_false, cond_true, List.map_append]; try simp) (by omega) (by omega)
     ·have hj' : ¬ (j : Int) < P.length := by omega
      have hKE : keepW (P.take j) = wordsL y := by rw [List.take_of_length_le (by omega)]; exact hKW
      obtain ⟨W, hW⟩ : ∃ W, W = wordsL y := ⟨_, rfl⟩
      rw [← hW] at hst hwk
      simp +decide -implicitDefEqProofs only [S0, simprocAttr, hj', hKE, rnP, cond_false, cond_true]
      rw [← hW]
      by_cases hW0 : W = []
      ·have hst2 : restL L k = restL L (k + 1) := by rw [hst, if_neg (by rw [hW0]; simp [keepL])]
       rw [if_pos (by rw [hW0]; rfl)]
       exact Nxt.mk [] ⟨k + 1, d, o, true⟩ (by simp +decide -implicitDefEqProofs only [S0, simprocAttr, hwr]) (by simp +decide -implicitDefEqProofs only [S0, simprocAttr, gfs, rnP, cond_false, cond_true]) ⟨by simp only; omega, hd, rnLe_up ho, by simp only; rw [← hst2]; exact hq⟩ (by simp only; omega)
      ·obtain ⟨w, r, hWr⟩ : ∃ w r, W = w :: r := by
        cases hc : W with
        | nil => exact absurd hc hW0
        | cons w r => exact ⟨w, r, rfl⟩
       have hw0 : W[0]? = some w := by rw [hWr]; rfl
       have hwp : (0 : Int) < W.length := by rw [hWr, List.length_cons]; omega
       have hwz : ¬ ((W.length : Int) = 0) := by omega
       rw [if_neg hwz]
       by_cases hsh : w = ⟨#[35]⟩
       ·have hds : decide (w = ⟨#[35]⟩) = true := decide_eq_true hsh
        have hst2 : restL L k = restL L (k + 1) := by rw [hst, if_neg (by rw [hWr]; simp [keepL, hsh])]
        simp +decide -implicitDefEqProofs only [S0, simprocAttr, hwp, hw0, toList_beq, hds, Option.map_some]
        exact Nxt.mk [] ⟨k + 1, d, o, true⟩ (by simp +decide -implicitDefEqProofs only [S0, simprocAttr, hwr]) (by simp +decide -implicitDefEqProofs only [S0, simprocAttr, gfs, rnP, cond_false, cond_true]) ⟨by simp only; omega, hd, rnLe_up ho, by simp only; rw [← hst2]; exact hq⟩ (by simp only; omega)
       ·have hds : decide (w = ⟨#[35]⟩) = false := decide_eq_false hsh
        have hst2 : restL L k = W :: restL L (k + 1) := by rw [hst, if_pos (by rw [hWr]; simp [keepL, hsh])]
        obtain ⟨v, v6, v7, han⟩ := answer_lend hd hwk hW0
        obtain ⟨hd', hano⟩ := ansD_ok (l := W) hd
        have hal := hano.len
        have hal2 : (bs (ansD d W).2).size ≤ 4200000 := by rw [bs_size]; exact hal
        rw [hst2] at hq
        simp +decide -implicitDefEqProofs only [S0, simprocAttr, hwp, hw0, toList_beq, hds, Option.map_some]
        refine callH han [.l 49, .l 39, .m 39 0, .m 39 1, .m 39 2, .m 39 3, .l 43, .m 43 0, .l 68] ?_
        simp +decide -implicitDefEqProofs only [S0, simprocAttr, gfs, rnP, cond_false, cond_true]
        refine callH (bdWrite_ok (.inr rfl) o (bs (ansD d W).2) (by omega)) [.l 10, .l 85] ?_
        simp +decide -implicitDefEqProofs only [S0, simprocAttr, gfs, bs_list]
        refine callH (bdByte_ok (o ++ (ansD d W).2) (by rw [List.length_append]; omega)) [.l 10, .l 85] ?_
        simp +decide -implicitDefEqProofs only [S0, simprocAttr, gfs]
        exact Nxt.mk [] ⟨k + 1, (ansD d W).1, o ++ (ansD d W).2 ++ [10], true⟩ (by simp +decide -implicitDefEqProofs only [S0, simprocAttr, hwr]) (by simp +decide -implicitDefEqProofs only [S0, simprocAttr, gfs, rnP, cond_false, cond_true, or_true, and_true]) ⟨by simp only; omega, hd', rnLe_add ho hal, by simp only; rw [← hq]; simp only [ansAll, List.flatten_cons, List.append_assoc]⟩ (by simp only; omega)
   ·have h' : ¬ (k : Int) < L.length := by omega
    rw [restL_end L (by omega)] at hq
    have hqo : (ansAll dk0 (restL L 0)).flatten = o := by rw [← hq]; simp [ansAll]
    rw [hqo]
    rcases u with _ | _
    ·simp +decide -implicitDefEqProofs only [S0, simprocAttr, h', rnP, cond_false, cond_true]
     refine callH (bdString_ok (p := .val (.pointer none)) o) [.l 10, .l 85] ?_
     simp +decide -implicitDefEqProofs only [S0, simprocAttr, gfs, rnP, cond_false, cond_true]
    ·simp +decide -implicitDefEqProofs only [S0, simprocAttr, h', rnP, cond_false, cond_true]
     refine callH (bdString_ok (p := .ptr (.e 0) 0 0) o) [.l 10, .l 85] ?_
     simp +decide -implicitDefEqProofs only [S0, simprocAttr, gfs, rnP, cond_false, cond_true]
end Go.Proofs.YtonolfpnidaflaaGreatDoor.E

namespace Go.Proofs.YtonolfpnidaflaaGreatDoor.E
open Go
set_option linter.unusedSimpArgs false
set_option linter.unusedVariables false
set_option linter.unusedSectionVars false
set_option maxRecDepth 20000
set_option maxHeartbeats 2000000
theorem genSplitA_ok (s : ByteArray) (c : UInt8) (hs : s.size < 4294967281) : Ok Tryz.prog 63 [S s, S ⟨#[c]⟩, I 1, I (-1)] (.list 1 (((splitA c s.data.toList).map bs).map fun s => [S s])) := by
 intro w T vs hT hG hv
 simp only [RVL, RV] at hv
 obtain ⟨_, _, rfl, ⟨rfl, _⟩, _, _, rfl, ⟨rfl, _⟩, _, _, rfl, ⟨rfl, _⟩, _, _, rfl, ⟨rfl, _⟩, rfl⟩ := hv
 obtain ⟨_, _, _, m, hm⟩ := gl_parts hG
 have hcl : Lib.countB s ⟨#[c]⟩ = s.data.toList.count c := Lib.count_one _ _
 have hcn : s.data.toList.count c ≤ s.size := by rw [← size_len]; exact List.count_le_length
 refine (Go.Proofs.Tryz.strings_genSplit s ⟨#[c]⟩ 1 (-1) (Lib.countB s ⟨#[c]⟩ + 1) m w hs hm (Nat.le_refl _) (Nat.le_refl _) (by omega) (by omega) (by rw [if_pos (by omega)]; omega)).mono ?_
 rintro e w' ⟨rfl, rfl⟩
 rw [Nat.add_sub_cancel]
 have hl : (Lib.splitB ⟨#[c]⟩ 1 (Lib.countB s ⟨#[c]⟩) s).length = Lib.countB s ⟨#[c]⟩ + 1 := by rw [splitBA_one, List.length_map, splitA_len, hcl]
 rw [splitBA_one] at hl ⊢
 generalize (splitA c s.data.toList).map bs = L at *
 have hco : Lib.cellsOf L (Lib.countB s ⟨#[c]⟩ + 1) = (L.map Value.string).toArray := by
  unfold Lib.cellsOf
  rw [← hl]
  simp
 rw [hco]
 refine ⟨_, rfl, Joins.below_alloc1 _ _, ?_⟩
 simp only [RV]
 refine ⟨_, _, by rw [List.length_map], by rw [List.length_map, hl]; exact Nat.le_refl _, fun q => (by cases q), .inr ⟨w.heap.size, 0, rfl, .inr ⟨Nat.le_refl _, by simp⟩, rows_strs L fun i z h => ?_⟩⟩
 have hb := heap_new w (.cells (L.map Value.string).toArray 9)
 simp only [World.cell?, hb]
 simp [h]
theorem SplitAfter_ok (s : ByteArray) (c : UInt8) (hs : s.size < 4294967281) : Ok Tryz.prog 20 [S s, S ⟨#[c]⟩] (.list 1 (((splitA c s.data.toList).map bs).map fun s => [S s])) := by
 have k1 : (⟨#[c]⟩ : ByteArray).size = 1 := rfl
 refine Ok.of_wp (rs := [.tmp 4]) (n := 10) Tryz.func20 rfl rfl rfl (by simp) fo (by kernel_rfl) ?_
 simp +decide -implicitDefEqProofs only [S0, simprocAttr, k1]
 refine call_eq (genSplitA_ok s c hs) ?_
 simp +decide -implicitDefEqProofs only [S0, simprocAttr]
end Go.Proofs.YtonolfpnidaflaaGreatDoor.E
