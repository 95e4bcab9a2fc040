/- Several texts in one: GrpM IterGI SortI Grp. No conditions. -/
import Derived.Test.YtonolfpnidaflaaGreatDoorGBa
import Derived.Test.YtonolfpnidaflaaGreatDoorGSt
import Derived.Shelf.SlIterI.Sorted
import Derived.Test.YtonolfpnidaflaaGreatDoorShelf
import Derived.RangeFuncBox
import Derived.RangeFuncLeaves
import Derived.Shelf.Abstract
import Derived.WalkKit
import Derived.OwnWalkIn
import Derived.TacticsInMore
import Derived.LoopNIn
import Derived.LoopIn
import Derived.Test.YtonolfpnidaflaaGreatDoorGLa
namespace Go.Proofs.YtonolfpnidaflaaGreatDoor.E
open Go
set_option linter.unusedSimpArgs false
set_option linter.unusedVariables false
set_option linter.unusedSectionVars false
set_option maxRecDepth 20000
def sortI (l : List Int) : List Int := l.mergeSort fun x y => decide (x ≤ y)
theorem sortI_len (l : List Int) : (sortI l).length = l.length := by unfold sortI; simp
structure Gr where
 n : Nat
 log : List ByteArray
 fol : List (List ByteArray)
 ack : List Int
/-- What is so of a group all along. -/
def grOk (g : Gr) : Prop := 1 ≤ g.n ∧ g.n ≤ 5 ∧ g.fol.length + 1 = g.n ∧ g.ack.length = g.n ∧ g.log.length ≤ 60 ∧ ∀ x ∈ g.fol, x.length ≤ 60
def gNew (n : Nat) : Gr := ⟨n, [], List.replicate (n - 1) [], List.replicate n 0⟩
def gAdd (g : Gr) (s : ByteArray) : Gr := { g with log := g.log ++ [s], ack := g.ack.set 0 ((g.log.length + 1 : Nat) : Int) }
/-- Is the one aS the other, aS far aS both go? -/
def agr : List ByteArray → List ByteArray → Bool
 | x :: xs, y :: ys => decide (x = y) && agr xs ys
 | _, _ => true
/-- What a follower has (j: from 0 on). -/
def gHas (g : Gr) (j : Nat) : List ByteArray := (g.fol[j]?).getD []
def tkE (g : Gr) (j fr : Nat) (l : List ByteArray) : Int := if (gHas g j).length < fr then 9 else if agr ((gHas g j).drop fr) l then (if 60 < fr + l.length then 2 else 0) else 3
def tkL (g : Gr) (j fr : Nat) (l : List ByteArray) : List ByteArray := gHas g j ++ l.drop ((gHas g j).length - fr)
def gPut (g : Gr) (j : Nat) (x : List ByteArray) : Gr := { g with fol := g.fol.set j x }
def gTake (g : Gr) (j fr : Nat) (l : List ByteArray) : Gr := if tkE g j fr l = 0 then gPut g j (tkL g j fr l) else g
def gAck (g : Gr) (j : Nat) (m : Int) : Gr := { g with ack := g.ack.set (j + 1) (max ((g.ack[j + 1]?).getD 0) m) }
def gSure (g : Gr) : Int := ((g.ack.mergeSort fun x y => decide (x ≤ y))[(g.n - 1) / 2]?).getD 0
theorem gNew_ok {n : Nat} (h1 : 1 ≤ n) (h5 : n ≤ 5) : grOk (gNew n) := by
 refine ⟨h1, h5, ?_, ?_, by simp [gNew], ?_⟩
 ·simp only [gNew, List.length_replicate]; omega
 ·simp only [gNew, List.length_replicate]
 ·intro x hx; simp only [gNew] at hx; rw [List.eq_of_mem_replicate hx]; simp
theorem gAdd_ok {g : Gr} (h : grOk g) (hl : g.log.length < 60) (s : ByteArray) : grOk (gAdd g s) := by
 obtain ⟨h1, h2, h3, h4, h5, h6⟩ := h
 exact ⟨h1, h2, h3, by simpa [gAdd] using h4, by simp [gAdd]; omega, h6⟩
theorem gPut_ok {g : Gr} (h : grOk g) (j : Nat) {x : List ByteArray} (hx : x.length ≤ 60) : grOk (gPut g j x) := by
 obtain ⟨h1, h2, h3, h4, h5, h6⟩ := h
 refine ⟨h1, h2, by simpa [gPut] using h3, h4, h5, fun y hy => ?_⟩
 rcases List.mem_or_eq_of_mem_set hy with hy | rfl
 ·exact h6 y hy
 ·exact hx
theorem gHas_len {g : Gr} (h : grOk g) (j : Nat) : (gHas g j).length ≤ 60 := by
 unfold gHas
 cases e : g.fol[j]? with
 | none => simp
 | some x => exact h.2.2.2.2.2 x (List.mem_of_getElem? e)
theorem tkE_zero {g : Gr} {j fr : Nat} {l : List ByteArray} (h : tkE g j fr l = 0) : fr ≤ (gHas g j).length ∧ agr ((gHas g j).drop fr) l = true ∧ fr + l.length ≤ 60 := by
 unfold tkE at h
 split at h
 ·omega
 ·split at h
  ·rename_i h2
   split at h
   ·omega
   ·exact ⟨by omega, h2, by omega⟩
  ·omega
theorem tkL_len {g : Gr} {j fr : Nat} {l : List ByteArray} (h : fr ≤ (gHas g j).length) : (tkL g j fr l).length = max (gHas g j).length (fr + l.length) := by
 unfold tkL
 rw [List.length_append, List.length_drop]
 omega
theorem gTake_ok {g : Gr} (h : grOk g) (j fr : Nat) (l : List ByteArray) : grOk (gTake g j fr l) := by
 unfold gTake
 split
 ·rename_i e
  obtain ⟨e1, _, e3⟩ := tkE_zero e
  have := gHas_len h j
  exact gPut_ok h j (by rw [tkL_len e1]; omega)
 ·exact h
theorem gAck_ok {g : Gr} (h : grOk g) (j : Nat) (m : Int) : grOk (gAck g j m) := by
 obtain ⟨h1, h2, h3, h4, h5, h6⟩ := h
 exact ⟨h1, h2, h3, by simpa [gAck] using h4, h5, h6⟩
theorem gPut_same (g : Gr) {j : Nat} (hj : j < g.fol.length) : gPut g j (gHas g j) = g := by
 unfold gPut gHas
 rw [List.getElem?_eq_getElem hj, Option.getD_some, List.set_getElem_self]
/-- The followers' lists, aS cells. -/
def fols (l : List (List ByteArray)) : List AV := l.map fun x => strs x
theorem fols_len (l : List (List ByteArray)) : (fols l).length = l.length := by simp [fols]
theorem fols_drop {l : List (List ByteArray)} {j : Nat} {x : List ByteArray} (h : l[j]? = some x) : List.drop j (fols l) = strs x :: List.drop (j + 1) (fols l) := by
 obtain ⟨hj, rfl⟩ := List.getElem?_eq_some_iff.1 h
 rw [List.drop_eq_getElem_cons (by rw [fols_len]; exact hj)]
 simp [fols]
theorem fols_put {l : List (List ByteArray)} {j : Nat} (x : List ByteArray) (h : j < l.length) : List.take j (fols l) ++ strs x :: List.drop (j + 1) (fols l) = fols (l.set j x) := by
 unfold fols
 rw [List.map_set, List.set_eq_take_append_cons_drop, if_pos (by simpa using h)]
theorem fols_mid {l : List (List ByteArray)} {j : Nat} (h : j < l.length) (x : AV) (r : List AV) : List.drop j (List.take j (fols l) ++ x :: r) = x :: r := by
 have e : (List.take j (fols l)).length = j := by rw [List.length_take, fols_len]; omega
 rw [List.drop_append, e, List.drop_eq_nil_of_le (by omega), Nat.sub_self, List.nil_append, List.drop_zero]
theorem fols_all {p : AV → Prop} (hp : ∀ x, p (strs x)) (l : List (List ByteArray)) : ∀ x ∈ fols l, p x := by
 intro x hx
 obtain ⟨y, _, rfl⟩ := List.mem_map.1 hx
 exact hp y
theorem stsL_app (a b : List AV) : stsL (a ++ b) = stsL a ++ stsL b := by
 induction a with
 | nil => simp only [List.nil_append, stsL]
 | cons x a ih => simp only [List.cons_append, stsL, ih, List.append_assoc]
theorem stsL_nil {l : List AV} (h : ∀ x ∈ l, sts x = []) : stsL l = [] := by
 induction l with
 | nil => simp only [stsL]
 | cons x l ih => simp only [stsL, h x (by simp), ih (fun y hy => h y (by simp [hy])), List.nil_append]
theorem fols_sts (l : List (List ByteArray)) : stsL (fols l) = [] := stsL_nil (fols_all (fun x => by simp only [sts]) l)
theorem fols_stsT (l : List (List ByteArray)) (j : Nat) : stsL (List.take j (fols l)) = [] := stsL_nil fun x hx => fols_all (p := fun x => sts x = []) (fun x => by simp only [sts]) l x (List.mem_of_mem_take hx)
theorem fols_stsD (l : List (List ByteArray)) (j : Nat) : stsL (List.drop j (fols l)) = [] := stsL_nil fun x hx => fols_all (p := fun x => sts x = []) (fun x => by simp only [sts]) l x (List.mem_of_mem_drop hx)
theorem rnL_app (g : Site → Nat → Option (Site × Nat)) (a b : List AV) : rnL g (a ++ b) = rnL g a ++ rnL g b := by
 induction a with
 | nil => simp only [List.nil_append, rnL]
 | cons x a ih => simp only [List.cons_append, rnL, ih]
theorem rnL_id {g : Site → Nat → Option (Site × Nat)} {l : List AV} (h : ∀ x ∈ l, rn g x = x) : rnL g l = l := by
 induction l with
 | nil => simp only [rnL]
 | cons x l ih => simp only [rnL, h x (by simp), ih (fun y hy => h y (by simp [hy]))]
theorem fols_rn (g : Site → Nat → Option (Site × Nat)) (l : List (List ByteArray)) : rnL g (fols l) = fols l := rnL_id (fols_all (fun x => by simp only [rn]) l)
theorem fols_rnT (g : Site → Nat → Option (Site × Nat)) (l : List (List ByteArray)) (j : Nat) : rnL g (List.take j (fols l)) = List.take j (fols l) := rnL_id fun x hx => fols_all (p := fun x => rn g x = x) (fun x => by simp only [rn]) l x (List.mem_of_mem_take hx)
theorem fols_rnD (g : Site → Nat → Option (Site × Nat)) (l : List (List ByteArray)) (j : Nat) : rnL g (List.drop j (fols l)) = List.drop j (fols l) := rnL_id fun x hx => fols_all (p := fun x => rn g x = x) (fun x => by simp only [rn]) l x (List.mem_of_mem_drop hx)
theorem fzL_app (hp : Hp) (g : Site → Nat → Option (Site × Nat)) (a b : List AV) : fzL hp g (a ++ b) = fzL hp g a ++ fzL hp g b := by
 induction a with
 | nil => rw [List.nil_append, show fzL hp g [] = [] from rfl, List.nil_append]
 | cons x a ih => rw [List.cons_append, zl_cons, zl_cons, ih, List.cons_append]
theorem fzL_id {hp : Hp} {g : Site → Nat → Option (Site × Nat)} {l : List AV} (h : ∀ x ∈ l, fz hp g x = x) : fzL hp g l = l := by
 induction l with
 | nil => rfl
 | cons x l ih => rw [zl_cons, h x (by simp), ih (fun y hy => h y (by simp [hy]))]
theorem fols_fz (hp : Hp) (g : Site → Nat → Option (Site × Nat)) (l : List (List ByteArray)) : fzL hp g (fols l) = fols l := fzL_id (fols_all (fun x => by simp only [fz]) l)
theorem fols_fzT (hp : Hp) (g : Site → Nat → Option (Site × Nat)) (l : List (List ByteArray)) (j : Nat) : fzL hp g (List.take j (fols l)) = List.take j (fols l) := fzL_id fun x hx => fols_all (p := fun x => fz hp g x = x) (fun x => by simp only [fz]) l x (List.mem_of_mem_take hx)
theorem fols_fzD (hp : Hp) (g : Site → Nat → Option (Site × Nat)) (l : List (List ByteArray)) (j : Nat) : fzL hp g (List.drop j (fols l)) = List.drop j (fols l) := fzL_id fun x hx => fols_all (p := fun x => fz hp g x = x) (fun x => by simp only [fz]) l x (List.mem_of_mem_drop hx)
theorem fols_cc (nb : Nat → Prop) (l : List (List ByteArray)) : CvC nb (fols l) (fols l) = True := by
 refine eq_true ?_
 unfold fols
 induction l with
 | nil => exact trivial
 | cons x l ih => rw [List.map_cons, cc_cons]; exact ⟨(rfl : strs x = strs x), ih⟩
theorem fols_sub (l : List (List ByteArray)) : SubC (fols l) (fols l) = True := by
 refine eq_true ?_
 unfold fols
 induction l with
 | nil => exact trivial
 | cons x l ih => rw [List.map_cons]; simp only [SubC]; exact ⟨(rfl : strs x = strs x), ih⟩
theorem fols_to (ad : List Site) (hp G : Hp) (l : List (List ByteArray)) : toL ad hp G (fols l) (fols l) = True := by
 refine eq_true ?_
 unfold fols
 induction l with
 | nil => rw [List.map_nil, toL_nil]; trivial
 | cons x l ih => rw [List.map_cons, toL_cons, to_list]; exact ⟨⟨rfl, rfl⟩, ih⟩
theorem gfs : (∀ l, (fols l).length = l.length) ∧ (∀ l, stsL (fols l) = []) ∧ (∀ l j, stsL (List.take j (fols l)) = []) ∧ (∀ l j, stsL (List.drop j (fols l)) = []) ∧ (∀ a b, stsL (a ++ b) = stsL a ++ stsL b) ∧ (∀ g l, rnL g (fols l) = fols l) ∧ (∀ g l j, rnL g (List.take j (fols l)) = List.take j (fols l)) ∧ (∀ g l j, rnL g (List.drop j (fols l)) = List.drop j (fols l)) ∧ (∀ g a b, rnL g (a ++ b) = rnL g a ++ rnL g b) ∧ (∀ h g l, fzL h g (fols l) = fols l) ∧ (∀ h g l j, fzL h g (List.take j (fols l)) = List.take j (fols l)) ∧ (∀ h g l j, fzL h g (List.drop j (fols l)) = List.drop j (fols l)) ∧ (∀ h g a b, fzL h g (a ++ b) = fzL h g a ++ fzL h g b) ∧ (∀ nb l, CvC nb (fols l) (fols l) = True) ∧ (∀ l, SubC (fols l) (fols l) = True) ∧ (∀ ad h G l, toL ad h G (fols l) (fols l) = True) :=
 ⟨fols_len, fols_sts, fols_stsT, fols_stsD, stsL_app, fols_rn, fols_rnT, fols_rnD, rnL_app, fols_fz, fols_fzT, fols_fzD, fzL_app, fols_cc, fols_sub, fols_to⟩
end Go.Proofs.YtonolfpnidaflaaGreatDoor.E

namespace Go.Proofs.YtonolfpnidaflaaGreatDoor.E
open Go Go.RowKit Go.Maps Go.Sort Go.Shelf
set_option linter.unusedSimpArgs false
set_option linter.unusedVariables false
set_option linter.unusedSectionVars false
set_option maxRecDepth 20000
variable {P : Program} {ρ : Ren}
/-- An iterator's word to whoever keeps what lay in w aS it was. -/
def SeqGivesI {α : Type} (F : Fence) (n : Nat) (P : Program) (g : Nat) (lb : Array Value) (enc : α → Value) (S : List α → Prop) (N : Nat) (w : World) : Prop :=
 ∀ (l : Nat) (J : List α → World → Prop) (W : World), Below w.heap.size w W → AbidesFrom W.heap.size J → (∀ pre W1, J pre W1 → Below w.heap.size w W1) →
  (∀ pre x W1, J pre W1 → pre.length < N → YieldAt F (n - 1) P l #[enc x] W1 fun e W' => e = .returned (.bool true) ∧ J (pre ++ [x]) W' ∧ KeepsWalks W1 W') →
  J [] W →
  CallsIn F n P g (#[.func (.yield l) #[] #[]] ++ lb) W fun e W' => (∃ v, e = .returned v) ∧ ∃ xs, S xs ∧ J xs W'
set_option maxRecDepth 100000 in
set_option maxHeartbeats 2000000 in
theorem appendSeqI (L : SlLaysZI.n11 P ρ) (F : Fence) (n : Nat) (h11 : F.fn (ρ.f 11)) (hro : F.round = none) (hn : 2 ≤ n) (g : Nat) (lb : Array Value) (hFg : F.fn g) (eg : ∀ args w, (callFunc g args).run P w = .ok (.enter g args) w)
  (S : List Int → Prop) (N : Nat) (hN : N ≤ maxLen) (hNb : N * 8 ≤ 140737488355328) (w : World) (hseq : SeqGivesI F (n - 1) P g lb encZ S N w) :
  CallsIn F n P (ρ.f 11) #[.slice none 0 0, .func (.func g) #[] lb] w fun e w' => ∃ (v : Value) (ss : List Int), e = .returned v ∧ S ss ∧ w'.ownsRow w.heap.size (ρ.t 26) 1 v ss.length (ss.map encZ) ∧ (v = .slice none 0 0 ↔ ss = []) ∧ Below w.heap.size w w' := by
 have h1 : 1 ≤ n := by omega
 have mixed := L.mixed; have t0 := L.t0; have a0 := L.a0; have z0 := L.z0; have v0 := L.v0; have t24 := L.t24; have a24 := L.a24; have z24 := L.z24; have v24 := L.v24; have t26 := L.t26; have a26 := L.a26; have z26 := L.z26; have v26 := L.v26; have t28 := L.t28; have a28 := L.a28; have z28 := L.z28; have v28 := L.v28
 have hne : ρ.t 24 ≠ ρ.t 26 := fun e => by have h := L.t24; rw [e, L.t26] at h; cases h
 have u0 := run_underlying L.t0; have u24 := run_underlying L.t24; have u26 := run_underlying L.t26; have u28 := run_underlying L.t28
 obtain ⟨_, _, FG⟩ := L.f11
 refine callsIn_of_wp_marks FG rfl h11 ?_ hro
 simp only [SlBodyZ.n11_ntmps ρ, List.size_toArray, List.length_cons, List.length_nil, Nat.reduceAdd, Nat.reduceSub, Array.replicate_succ, Array.replicate_zero, List.push_toArray, List.append_toArray, List.nil_append, List.cons_append]
 gi_wp2
 refine wpIn_rangeFunc ?_
 intro fn hfn
 rw [hro]
 obtain ⟨W0, hW0⟩ : ∃ W0, w.alloc (.cells #[.slice none 0 0] (ρ.t 24)) = W0 := ⟨_, rfl⟩
 have hs0 : W0.heap.size = w.heap.size + 1 := by rw [← hW0]; simp
 have hv0 : W0.heap[w.heap.size]? = some (.cells #[.slice none 0 0] (ρ.t 24) (0, 0)) := by rw [← hW0]; exact World.alloc_heap_new w _
 have hb0 : Below w.heap.size w W0 := by rw [← hW0]; exact (Below.refl _ w).alloc (Nat.le_refl _) _
 rw [hW0]
 obtain ⟨W1, hW1⟩ : ∃ W1, (W0.alloc (.deferred (some []))).alloc (.loop (AnyZI.apRec ρ fn (.func (.func g) #[] lb) w.heap.size W0.heap.size .ready none)) = W1 := ⟨_, rfl⟩
 have hold : ∀ k, k < W0.heap.size → W1.heap[k]? = W0.heap[k]? := fun k hk => by
  rw [← hW1]; exact (Below.heap_alloc _ _ k (by simp; omega)).trans (Below.heap_alloc _ _ k hk)
 have hb1 : Below w.heap.size w W1 := by rw [← hW1]; exact (hb0.alloc hb0.size _).alloc (by have := hb0.size; simp; omega) _
 have hs1 : W1.heap.size = W0.heap.size + 2 := by rw [← hW1]; simp
 have hM : AnyZI.ApAt ρ w fn (.func (.func g) #[] lb) w.heap.size (W0.heap.size + 1) W0.heap.size [] W1 :=
  ⟨⟨_, (hold w.heap.size (by omega)).trans hv0, ⟨rfl, .inl ⟨rfl, rfl⟩⟩, by simp⟩,
   by rw [← hW1]; have := World.alloc_heap_new (W0.alloc (.deferred (some []))) (.loop (AnyZI.apRec ρ fn (.func (.func g) #[] lb) w.heap.size W0.heap.size .ready none)); rwa [World.size_alloc] at this,
   by rw [← hW1]; exact (Below.heap_alloc _ _ _ (by simp)).trans (World.alloc_heap_new W0 _), hb1⟩
 refine ⟨W0.heap.size + 1, [{ target := .collected W0.heap.size, args := #[] }], W1, { target := .fn (.func g) lb, args := #[.func (.yield (W0.heap.size + 1)) #[] #[]] }, W1, g,
  #[.func (.yield (W0.heap.size + 1)) #[] #[]] ++ lb, W1, ?_, ?_, ?_, ?_, fun _ => h1, ?_⟩
 ·rw [← hW1]; exact run_enterLoop_outer _ _ _ _ _
 ·simp [resolve, go_sem]
 ·intro f' hf'; simp [Target.leads] at hf'; subst hf'; exact hFg
 ·simp [invoke, go_sem, eg]
 ·refine (hseq (W0.heap.size + 1) (AnyZI.ApAt ρ w fn (.func (.func g) #[] lb) w.heap.size (W0.heap.size + 1) W0.heap.size) W1 hb1 (AnyZI.ap_abides ρ _ _ _ _ _ _ _ hb1.size) (fun _ _ h => h.below)
   (fun pre x W hJ hl => AnyZI.apYield { L with } F (n - 1 - 1) w fn hfn _ w.heap.size (W0.heap.size + 1) W0.heap.size (by omega) (by omega) (by omega) (Nat.le_refl _) (by omega) N hN hNb pre x W hJ hl) hM).mono ?_
  rintro e W2 ⟨⟨v0, rfl⟩, ss, hS, h2⟩
  obtain ⟨v, hv, hrow, hnil⟩ := h2.box
  have hend := run_endLoop (P := P) h2.L (by simp [AnyZI.apRec])
  obtain ⟨W3, hW3⟩ : ∃ W3, W2.putObj (W0.heap.size + 1) (.loop { AnyZI.apRec ρ fn (.func (.func g) #[] lb) w.heap.size W0.heap.size .ready none with state := .exhausted }) = W3 := ⟨_, rfl⟩
  rw [hW3] at hend
  have hg3 : W2.grownBy W3 (some (W0.heap.size + 1)) := by rw [← hW3]; exact grownBy_putObj_a _ _ _
  have hv3 : W3.heap[w.heap.size]? = some (.cells #[v] (ρ.t 24) (0, 0)) := by rw [← hW3]; exact (World.putObj_heap_other (by omega)).trans hv
  have hK3 : W3.heap[W0.heap.size]? = some (.deferred (some [])) := by rw [← hW3]; exact (World.putObj_heap_other (by omega)).trans h2.K
  have hrow3 := hrow.kept hg3 (ownsRow_ne_a hrow h2.L (fun cur e => by first | cases e | exact hne (Obj.cells.inj e).2.1))
  have hb3 : Below w.heap.size w W3 := h2.below.grown hg3 h2.below.size (fun k e => by cases e; omega)
  obtain ⟨hc3, hf3⟩ := cell_of_box_a hv3
  clear hW3
  refine ⟨none, W3, hend, ?_⟩
  gi_wp2
  rw [← hs0]
  refine ⟨by simp, .inl ⟨_, _, rfl, run_takeDeferred hK3, ?_⟩⟩
  exact ⟨_, results_tmp rfl _ _ _, v, ss, rfl, hS, hrow3.kept (grownBy_putObj_a _ _ _) (ownsRow_ne_a hrow3 hK3 (fun cur e => by first | cases e | exact hne (Obj.cells.inj e).2.1)), hnil, hb3.grown (grownBy_putObj_a _ _ _) hb3.size (fun k e => by cases e; omega)⟩

set_option maxHeartbeats 1000000 in
theorem collectI (L : SlLaysZI.n8 P ρ) (F : Fence) (n : Nat) (h8 : F.fn (ρ.f 8)) (h11 : F.fn (ρ.f 11)) (hro : F.round = none) (hn : 3 ≤ n) (g : Nat) (lb : Array Value) (hFg : F.fn g) (eg : ∀ args w, (callFunc g args).run P w = .ok (.enter g args) w)
  (S : List Int → Prop) (N : Nat) (hN : N ≤ maxLen) (hNb : N * 8 ≤ 140737488355328) (w : World) (hseq : SeqGivesI F (n - 1 - 1) P g lb encZ S N w) :
  CallsIn F n P (ρ.f 8) #[.func (.func g) #[] lb] w fun e w' => ∃ (v : Value) (ss : List Int), e = .returned v ∧ S ss ∧ w'.ownsRow w.heap.size (ρ.t 26) 1 v ss.length (ss.map encZ) ∧ (v = .slice none 0 0 ↔ ss = []) ∧ Below w.heap.size w w' := by
 have h1 : 1 ≤ n := by omega
 have e11 : ∀ args w, (callFunc (ρ.f 11) args).run P w = .ok (.enter (ρ.f 11) args) w := L.f11.enters rfl
 have mixed := L.mixed; have t0 := L.t0; have a0 := L.a0; have z0 := L.z0; have v0 := L.v0; have t24 := L.t24; have a24 := L.a24; have z24 := L.z24; have v24 := L.v24; have t26 := L.t26; have a26 := L.a26; have z26 := L.z26; have v26 := L.v26; have t28 := L.t28; have a28 := L.a28; have z28 := L.z28; have v28 := L.v28
 have u0 := run_underlying L.t0; have u24 := run_underlying L.t24; have u26 := run_underlying L.t26; have u28 := run_underlying L.t28
 obtain ⟨_, _, FG⟩ := L.f8
 refine callsIn_of_wp FG rfl h8 ?_ hro
 simp only [SlBodyZ.n8_ntmps ρ, List.size_toArray, List.length_cons, List.length_nil, Nat.reduceAdd, Nat.reduceSub, Array.replicate_succ, Array.replicate_zero, List.push_toArray, List.append_toArray, List.nil_append, List.cons_append]
 gi_wp2_with (gi_at_fn (ρ.f 11); refine (appendSeqI { L with } F (n - 1) h11 hro (by omega) g lb hFg eg S N hN hNb _ hseq).mono ?_; rintro e w' ⟨v, ss, rfl, hS, hrow, hnil, hb⟩)
 go_ret
 exact ⟨v, ss, rfl, hS, hrow, hnil, hb⟩

set_option maxRecDepth 100000 in
set_option maxHeartbeats 2000000 in
theorem sortedI (L : SlLaysZI.n6 P ρ) (F : Fence) (n : Nat) (h6 : F.fn (ρ.f 6)) (h8 : F.fn (ρ.f 8)) (h9 : F.fn (ρ.f 9)) (h11 : F.fn (ρ.f 11)) (hro : F.round = none) (hn : 4 ≤ n) (hsort : AnyZI.SortsIn P ρ F (n - 1)) (e9 : ∀ args w, (callFunc (ρ.f 9) args).run P w = .ok (.enter (ρ.f 9) args) w) (g : Nat) (lb : Array Value) (hFg : F.fn g) (eg : ∀ args w, (callFunc g args).run P w = .ok (.enter g args) w)
  (S : List Int → Prop) (N : Nat) (hN : N ≤ maxLen) (hNb : N * 8 ≤ 140737488355328) (w : World) (hcount : ∀ ss, S ss → ss.length ≤ N) (hseq : SeqGivesI F (n - 1 - 1 - 1) P g lb encZ S N w) :
  CallsIn F n P (ρ.f 6) #[.func (.func g) #[] lb] w fun e w' => ∃ (v : Value) (ss : List Int), e = .returned v ∧ S ss ∧
   w'.ownsRow w.heap.size (ρ.t 26) 1 v ss.length ((ss.mergeSort (fun x y => decide (x ≤ y))).map encZ) ∧ (v = .slice none 0 0 ↔ ss = []) ∧ Below w.heap.size w w' := by
 have h1 : 1 ≤ n := by omega
 have e8 : ∀ args w, (callFunc (ρ.f 8) args).run P w = .ok (.enter (ρ.f 8) args) w := L.f8.enters rfl
 have mixed := L.mixed; have t0 := L.t0; have a0 := L.a0; have z0 := L.z0; have v0 := L.v0; have t24 := L.t24; have a24 := L.a24; have z24 := L.z24; have v24 := L.v24; have t26 := L.t26; have a26 := L.a26; have z26 := L.z26; have v26 := L.v26; have t28 := L.t28; have a28 := L.a28; have z28 := L.z28; have v28 := L.v28
 have u0 := run_underlying L.t0; have u24 := run_underlying L.t24; have u26 := run_underlying L.t26; have u28 := run_underlying L.t28
 obtain ⟨_, _, FG⟩ := L.f6
 refine callsIn_of_wp FG rfl h6 ?_ hro
 simp only [SlBodyZ.n6_ntmps ρ, List.size_toArray, List.length_cons, List.length_nil, Nat.reduceAdd, Nat.reduceSub, Array.replicate_succ, Array.replicate_zero, List.push_toArray, List.append_toArray, List.nil_append, List.cons_append]
 gi_wp2_with (gi_at_fn (ρ.f 8); refine (collectI { L with } F (n - 1) h8 h11 hro (by omega) g lb hFg eg _ N hN hNb _ hseq).mono ?_; rintro e W ⟨v, ss, rfl, hS, hrow, hnil, hb⟩)
 have hlen := hcount ss hS
 rcases hrow.2 with ⟨rfl, hz⟩ | ⟨gb, cap, cur, rfl, hbase, hgb, r1, r2, r3, r4⟩
 ·-- nothing came: the nil slice is sorted and handed back
  have hss : ss = [] := List.eq_nil_of_length_eq_zero hz
  subst hss
  gi_wp2_with (gi_at_fn (ρ.f 9); refine (hsort.2 none 0 W).mono ?_; rintro e w' ⟨rfl, rfl⟩)
  go_ret
  exact ⟨.slice none 0 0, [], rfl, hS, by simpa using hrow, by simp, hb⟩
 ·have hH : Holds encZ W gb 0 ss.toArray := holds_of_block_i hgb (by simpa using r4)
  have hgl : gb < W.heap.size := (Array.getElem?_eq_some_iff.1 hgb).1
  have hsz : ss.length < 4611686018427387904 := by omega
  have cS := hsort.1 gb 0 cap ss W hH hgl hsz
  gi_wp2_with (gi_at_fn (ρ.f 9); refine cS.mono ?_; rintro e w' ⟨rfl, nn, os, rfl⟩)
  go_ret
  exact ⟨_, ss, rfl, hS, ownsRow_sorted_i (by simp) hbase hgb r1 r2 r3, hnil, hb.grown (grownBy_sorted_i _) hb.size (fun j hj => by cases hj; exact hbase)⟩

end Go.Proofs.YtonolfpnidaflaaGreatDoor.E

namespace Go.Proofs.YtonolfpnidaflaaGreatDoor.E
open Go
set_option linter.unusedSimpArgs false
set_option linter.unusedVariables false
set_option linter.unusedSectionVars false
set_option maxRecDepth 20000
abbrev zs1 (l : List Int) : List (List AV) := l.map fun a => [I a]
theorem flatZ (l : List Int) : (zs1 l).flatten = l.map I := by
 induction l with
 | nil => rfl
 | cons x l ih => simp only [zs1, List.map_cons, List.flatten_cons] at ih ⊢; rw [ih]; rfl
theorem rvl_ints {w : World} {Q : Nat → Prop} {l : List Int} {vs : List Value} (h : RVL w Q (l.map I) vs) : vs = l.map (Value.int .i64) := by
 induction l generalizing vs with
 | nil => simpa [RVL] using h
 | cons x l ih =>
  simp only [List.map_cons, RVL, RV] at h
  obtain ⟨_, _, rfl, ⟨rfl, _⟩, h⟩ := h
  rw [ih h]; rfl
theorem ints_rvl {w : World} {Q : Nat → Prop} (l : List Int) : RVL w Q (l.map I) (l.map (Value.int .i64)) := by
 induction l with
 | nil => simp [RVL]
 | cons x l ih =>
  simp only [List.map_cons, RVL, RV]
  exact ⟨_, _, rfl, ⟨rfl, rfl⟩, ih⟩
section
open _root_.Go.RowKit _root_.Go.Maps _root_.Go.Sort _root_.Go.Shelf
attribute [local go_sem] Oper.semAt_some
theorem takeZ_succ {l : List Int} {k : Nat} {s : Int} (h : l[k]? = some s) : l.take (k + 1) = l.take k ++ [s] := take_get h
set_option maxRecDepth 100000 in
set_option maxHeartbeats 2000000 in
theorem vals1I_gives (F : Fence) (n : Nat) (hf : F.fn 187) (hro : F.round = none) (hn : 1 ≤ n) (Bs o b off cap : Nat) (zs : List Int) (hreach : zs.length * 8 ≤ 140737488355328) (w : World) (hB : Bs < w.heap.size) (hb : b < w.heap.size)
  (hBs : w.cell? ⟨Bs, o, none⟩ = some (.slice (some ⟨b, off, none⟩) zs.length cap)) (hc : ∀ j z, zs[j]? = some z → w.cell? ⟨b, off + j, none⟩ = some (.int .i64 z)) :
  SeqGivesI F n Tryz.prog 187 #[.pointer (some ⟨Bs, o, none⟩)] encZ (fun ss => ss = zs) zs.length w := by
 intro l J W hW hJ hJB hY h0
 have hBsW : W.cell? ⟨Bs, o, none⟩ = some (.slice (some ⟨b, off, none⟩) zs.length cap) := (hW.cell (p := ⟨Bs, o, none⟩) hB).trans hBs
 refine callsIn_of_wp Tryz.func187 rfl hf ?_ hro
 simp only [Tryz.ntmps187, List.size_toArray, List.length_cons, List.length_nil, Nat.reduceAdd, Nat.reduceSub, Array.replicate_succ, Array.replicate_zero, List.push_toArray, List.append_toArray, List.nil_append, List.cons_append]
 gi_wp2
 gi_loopw [7] (fun i wr => ∃ k : Nat, k ≤ zs.length ∧ i = .int .i64 k ∧ J (zs.take k) wr)
  (fun i _ => zs.length - (intOf i).toNat)
 case atStart => exact ⟨0, Nat.zero_le _, rfl, h0⟩
 case round =>
  obtain ⟨k, hk, rfl, hJs⟩ := hrel
  by_cases hlt : k < zs.length
  ·obtain ⟨z, hz⟩ := lt_get hlt
   have hcx : wr.cell? ⟨b, off + k, none⟩ = some (.int .i64 z) := ((hJB _ _ hJs).cell (p := ⟨b, off + k, none⟩) hb).trans (hc k z hz)
   have hlen : (zs.take k).length < zs.length := by rw [List.length_take]; omega
   obtain ⟨fn, tmps, assign, body, hy, hR⟩ := hY _ z wr hJs hlen
   rw [← takeZ_succ hz] at hR
   gi_wp2
   refine hR.mono ?_
   rintro e W3 ⟨rfl, hJ3, hk3⟩
   gi_wp2
   go_roundw
   case rel => exact ⟨k + 1, by omega, by simp, hJ3⟩
   case measure => simp [intOf]; omega
  ·obtain rfl : k = zs.length := by omega
   gi_wp2
   go_end0
   refine ⟨⟨_, rfl⟩, _, ?_, hJs⟩
   rw [List.take_of_length_le (Nat.le_refl _)]
theorem sortsI (m : Nat) : AnyZI.SortsIn Tryz.prog Tryz.sortedI_ren Fence.wide m :=
 ⟨fun blk off cap ss W hH hblk hsz => callsIn_wide.2 (Tryz.slices_Sort_int blk off cap ss W hH hblk hsz),
  fun p cap W => callsIn_wide.2 (Tryz.slices_Sort_int_none p cap W)⟩
set_option maxHeartbeats 2000000 in
theorem sortedV_ok (l : List Int) (h0 : l ≠ []) (hl : l.length ≤ 1000000) (t : TypeId) (q : Option Nat) : OkH Tryz.prog 160 [.func 187 [.ptr (.e 0) 0 0]] [.cells t [.own (.e 1) 0 1 0 l.length], .row 3 1 q (zs1 l)] (ints (sortI l)) [(0, .cells t [.own (.e 1) 0 1 0 l.length]), (0, .row 3 1 q (zs1 l))] := by
 intro w c vs hi hv
 have hg0 : Hp.get (hpE 0 ([Blk.cells t [.own (.e 1) 0 1 0 l.length], .row 3 1 q (zs1 l)].map fun b => (0, b))) (.e 0) = (0, .cells t [.own (.e 1) 0 1 0 l.length]) := rfl
 have hg1 : Hp.get (hpE 0 ([Blk.cells t [.own (.e 1) 0 1 0 l.length], .row 3 1 q (zs1 l)].map fun b => (0, b))) (.e 1) = (0, .row 3 1 q (zs1 l)) := rfl
 simp only [RelL] at hv
 obtain ⟨u, us, rfl, hu, rfl⟩ := hv
 simp only [RelV] at hu
 obtain ⟨us, rfl, hu⟩ := hu
 simp only [RelL] at hu
 obtain ⟨p, us, rfl, hp, rfl⟩ := hu
 obtain ⟨g1, hlv, B, cpB, xs, hB, hBh, ho, hBr⟩ := hi.cells hg0
 simp only [RelL] at hBr
 obtain ⟨sv, us, rfl, hsv, rfl⟩ := hBr
 simp only [RelV] at hp
 obtain ⟨B', cp', e1, rfl⟩ := hp.2 g1.symm
 rw [hB] at e1
 cases e1
 have hBlt : B < w.heap.size := hi.lt B (Cx.live_loc hlv hB)
 rcases row_block hi hg1 hsv (by simp) with ⟨_, _, h1, _⟩ | ⟨b, cp, ys, rest, hloc, rfl, hle, hq, hcp, hb, hlen, hone, hr, hxl, hrc⟩
 ·exact absurd (List.eq_nil_of_length_eq_zero h1) h0
 have hys : ys = l.map (Value.int .i64) := rvl_ints (by rw [flatZ] at hr; exact hr)
 have hblt : b < w.heap.size := (Array.getElem?_eq_some_iff.1 hb).1
 have hseq := vals1I_gives Fence.wide 2 trivial rfl (by omega) B 0 b 0 cp l (by omega) w hBlt hblt (by rw [cell_block hBh]; rfl) (fun j z hz => by
  rw [Nat.zero_add, cell_block hb, hys, List.getElem?_append_left (by simpa using (List.getElem?_eq_some_iff.1 hz).1), List.getElem?_map, hz]; rfl)
 have cS := sortedI (ρ := Tryz.sortedI_ren) Tryz.sortedI Fence.wide 5 trivial trivial trivial trivial rfl (by omega) (sortsI _) (enters_of Tryz.func186 (by kernel_rfl) rfl) 187 #[.pointer (some ⟨B, 0, none⟩)] trivial (enters_of Tryz.func187 (by kernel_rfl) rfl) _ l.length (by simp only [maxLen]; omega) (by omega) w (fun ss e => by rw [e]; exact Nat.le_refl _) hseq
 have cC := (callsIn_wide (n := 5)).1 cS
 refine cC.mono ?_
 rintro e w' ⟨v, ss, rfl, rfl, hrow, _, hbel⟩
 have he : Ext w c w' c := ⟨hbel.os, hbel.tape, hbel.output, hbel.size, fun b hb hn => ⟨hbel.block b hb, hn⟩, rfl, fun s => .inr ⟨rfl, rfl, id⟩⟩
 refine ⟨v, c, rfl, he, hi.ext he fun b hb => hbel.block b (hi.lt b hb), ?_⟩
 rcases hrow.2 with ⟨_, hz⟩ | ⟨gb, cap, cur, rfl, hbase, hgb, r1, r2, r3, r4⟩
 ·exact absurd (List.eq_nil_of_length_eq_zero hz) h0
 simp only [RelV, RV]
 refine ⟨_, cap, ?_, ?_, fun h => (by cases h), .inr ⟨gb, 0, rfl, ⟨(Array.getElem?_eq_some_iff.1 hgb).1, fun hl => ?_, fun hf => ?_⟩, ?_⟩⟩
 ·rw [List.length_map, sortI_len]
 ·rw [List.length_map, sortI_len]; exact r1
 ·have := hi.lt gb hl; omega
 ·have := hi.farlt gb hf; omega
 ·refine RVRows.of_flat (fun x hx => by obtain ⟨y, _, rfl⟩ := List.mem_map.1 hx; rfl) ?_
  have e : (List.map (fun n => [I n]) (sortI ss)).flatten = (sortI ss).map I := flatZ _
  rw [e]
  refine RVAt.of_vals (ints_rvl _) (fun u hu => by obtain ⟨y, _, rfl⟩ := List.mem_map.1 hu; rfl) fun i v hv => ?_
  have hc : w'.heap[gb]? = some (.cells cur.toList.toArray 3 (0, 0)) := by rw [Array.toArray_toList]; exact hgb
  rw [cell_block hc, Nat.zero_add, ← hv, show (sortI ss).map (Value.int .i64) = cur.toList.take (ss.length * 1) from r4.symm, List.getElem?_take]
  have hi2 : i < ss.length := by
   have := (List.getElem?_eq_some_iff.1 hv).1
   simpa [sortI_len] using this
  rw [if_pos (by omega)]
end
theorem valsI_ok (n : Nat) (q : Option Nat) (rows : List (List AV)) : OkH Tryz.prog 161 [.own (.e 0) 0 1 0 n] [.row 3 1 q rows] (.func 187 [.ptr (.e 1) 1 0]) [(0, .row 3 1 q rows), (1, .cells 75 [.own (.e 0) 0 1 0 n])] := by
 refine OkH.of_wp (rs := [.tmp 2]) (n := 4) [some (.l 1)] Tryz.func161 rfl rfl rfl (by simp) fo (by kernel_rfl) ?_
 simp +decide -implicitDefEqProofs only [S0, simprocAttr, or_true, Option.getD_some]
end Go.Proofs.YtonolfpnidaflaaGreatDoor.E

namespace Go.Proofs.YtonolfpnidaflaaGreatDoor.E
open Go
set_option linter.unusedSimpArgs false
set_option linter.unusedVariables false
set_option linter.unusedSectionVars false
set_option maxRecDepth 20000
set_option maxHeartbeats 2000000
abbrev ss1 (l : List ByteArray) : List (List AV) := l.map fun s => [S s]
abbrev is1 (l : List Int) : List (List AV) := l.map fun a => [I a]
abbrev grC (g : Gr) (v u : Nat) : List AV := [I g.n, .own (.e 1) v 1 0 g.log.length, .own (.e 2) u 1 0 g.n, .own (.e 4) u 1 0 g.n]
abbrev grHas (g : Gr) (v : Nat) : List AV := .own (.e 3) v 1 0 g.log.length :: fols g.fol
abbrev grH (g : Gr) : List Blk := [.cells 131 (grC g 0 0), .row 9 1 none (ss1 g.log), .cells 33 (grHas g 0), .row 9 1 none (ss1 g.log), .row 3 1 (some g.n) (is1 g.ack)]
abbrev grHv (g : Gr) (v u : Nat) : List (Nat × Blk) := [(u, .cells 131 (grC g v u)), (v, .row 9 1 none (ss1 g.log)), (u, .cells 33 (grHas g v)), (v, .row 9 1 none (ss1 g.log)), (u, .row 3 1 (some g.n) (is1 g.ack))]
theorem grNew_ok {n : Nat} (h1 : 1 ≤ n) (h5 : n ≤ 5) : OkH Tryz.prog 27 [I n] [] (.tup [.ptr (.e 0) 1 0, I 0]) (grHv (gNew n) 1 1) := by
 have e1 : ¬ ((n : Int) < 1) := by omega
 have e2 : ¬ ((n : Int) > 5) := by omega
 have e3 : (0 : Int) ≤ n := by omega
 have e4 : (n : Int) ≤ 9223372036854775807 := by omega
 refine OkH.of_wp (rs := [.tmp 2, .tmp 3]) (n := 17) [some (.l 16), none, some (.l 12), none, some (.l 14)] Tryz.func27 rfl rfl rfl (by simp) fo (by kernel_rfl) ?_
 have hn : n = 1 ∨ n = 2 ∨ n = 3 ∨ n = 4 ∨ n = 5 := by omega
 rcases hn with rfl | rfl | rfl | rfl | rfl
 all_goals simp +decide -implicitDefEqProofs only [S0, simprocAttr]
 all_goals simp [gNew, fols, List.replicate]
 all_goals exact ⟨⟨⟨by decide, rfl⟩, rfl, rfl, rfl⟩, by simp [fols, CvC, Cv]⟩
theorem grIs_ok (g : Gr) (i : Int) : OkH Tryz.prog 68 [.ptr (.e 0) 0 0, I i] (grH g) (B (decide (1 ≤ i ∧ i < g.n))) (grHv g 0 0) := by
 refine OkH.of_wp (rs := [.tmp 4]) (n := 15) [] Tryz.func68 rfl rfl rfl (by simp) fo (by kernel_rfl) ?_
 by_cases h1 : 1 ≤ i
 ·by_cases h2 : i < g.n
  ·simp +decide -implicitDefEqProofs only [S0, simprocAttr, h1, h2, gfs, Option.getD_some, and_self, decide_true]
  ·simp +decide -implicitDefEqProofs only [S0, simprocAttr, h1, h2, gfs, Option.getD_some, and_self, and_false, decide_false]
 ·simp +decide -implicitDefEqProofs only [S0, simprocAttr, h1, gfs, Option.getD_some, false_and, decide_false]
theorem grAdd_ok (g : Gr) (h : g.log.length < 60) (s : ByteArray) (h1 : 1 ≤ g.n) (ha : g.ack.length = g.n) : OkH Tryz.prog 29 [.ptr (.e 0) 0 0, S s] (grH g) (.tup [I ((g.log.length + 1 : Nat) : Int), I 0]) (grHv (gAdd g s) 1 0) := by
 have hn : ¬ ((g.log.length : Int) = 60) := by omega
 have hl : (g.log ++ [s]).length = g.log.length + 1 := by simp
 obtain ⟨a, r, e⟩ : ∃ a r, g.ack = a :: r := by
  cases e : g.ack with
  | nil => rw [e] at ha; simp at ha; omega
  | cons a r => exact ⟨a, r, rfl⟩
 have hp : (0 : Int) < g.n := by omega
 refine OkH.of_wp (rs := [.tmp 4, .tmp 5]) (n := 51) [] Tryz.func29 rfl rfl rfl (by simp) fo (by kernel_rfl) ?_
 unfold gAdd
 simp +decide -implicitDefEqProofs only [S0, simprocAttr, hn, gfs, hl, hp, e, List.map_append, List.set_cons_zero, Option.getD_some, tk1]
 first | exact ⟨by omega, by omega, by omega⟩ | omega | exact ⟨by omega, by omega⟩
theorem ss1_drop (l : List ByteArray) (off : Nat) : List.take (l.length - off) (List.drop off (ss1 l)) = ss1 (l.drop off) := by
 unfold ss1
 rw [List.take_of_length_le (by simp), List.map_drop]
theorem cloneOwn_ok (l : List ByteArray) (q : Option Nat) (off : Nat) (hl : l.length ≤ 1000000) (ho : off ≤ l.length) : OkH Tryz.prog 67 [.own (.e 0) 0 1 off (l.length - off)] [.row 9 1 q (ss1 l)] (.own (.e 1) 1 1 0 (l.length - off)) [(0, .row 9 1 q (ss1 l)), (1, .row 9 1 none (ss1 (l.drop off)))] := by
 have ho2 : off + (l.length - off) ≤ l.length := by omega
 have hz : (l.drop off).length = l.length - off := List.length_drop
 refine OkH.of_wpX (rs := [.tmp 2]) (n := 8) Tryz.func67 rfl rfl rfl (by simp) fo (by kernel_rfl) ?_
 simp +decide -implicitDefEqProofs only [S0, simprocAttr, ho2, ss1_drop]
 refine ⟨fun h => ⟨[none], ?_⟩, by rw [hz]; omega, ⟨[some (.l 5)], ?_⟩⟩
 ·have e : l.length - off = 0 := by omega
  have e2 : l.drop off = [] := List.drop_eq_nil_of_le (by omega)
  simp +decide -implicitDefEqProofs only [S0, simprocAttr, e, e2, or_true]
 ·simp +decide -implicitDefEqProofs only [S0, simprocAttr, hz, or_true]
theorem cloneStrsH_ok (l : List ByteArray) (hl : l.length ≤ 1000000) : OkH Tryz.prog 67 [strs l] [] (.own (.e 0) 1 1 0 l.length) [(1, .row 9 1 none (ss1 l))] := by
 refine OkH.of_wpX (rs := [.tmp 2]) (n := 8) Tryz.func67 rfl rfl rfl (by simp) fo (by kernel_rfl) ?_
 simp +decide -implicitDefEqProofs only [S0, simprocAttr]
 refine ⟨fun e => ⟨[none], ?_⟩, by omega, ⟨[some (.l 5)], ?_⟩⟩
 ·obtain rfl := List.map_eq_nil_iff.1 e
  simp +decide -implicitDefEqProofs only [S0, simprocAttr]
 ·simp +decide -implicitDefEqProofs only [S0, simprocAttr]
theorem grSend_ok {g : Gr} (h : grOk g) {i m : Nat} (hi : i + 1 < g.n) (hm : m ≤ g.log.length) : OkH Tryz.prog 31 [.ptr (.e 0) 0 0, I ((i + 1 : Nat) : Int), I m] (grH g) (.tup [strs (g.log.drop m), I 0]) (grHv g 0 0) := by
 have hd : decide (1 ≤ ((i + 1 : Nat) : Int) ∧ ((i + 1 : Nat) : Int) < g.n) = true := by rw [decide_eq_true_iff]; omega
 have h1 : ¬ ((m : Int) < 0) := by omega
 have h2 : ¬ ((m : Int) > g.log.length) := by omega
 have h3 := h.2.2.2.2.1
 have h4 : List.take (g.log.length - m) (ss1 (g.log.drop m)) = ss1 (g.log.drop m) := List.take_of_length_le (by simp)
 have h6 : g.log.length - m ≤ (g.log.drop m).length := by rw [List.length_drop]; omega
 refine OkH.of_wp (rs := [.tmp 6, .tmp 7]) (n := 30) [] Tryz.func31 rfl rfl rfl (by simp) fo (by kernel_rfl) ?_
 simp +decide -implicitDefEqProofs only [S0, simprocAttr]
 refine callH (grIs_ok g ((i + 1 : Nat) : Int)) [.e 0, .e 1, .e 2, .e 3, .e 4] ?_
 rw [hd]
 simp +decide -implicitDefEqProofs only [S0, simprocAttr, gfs, h1, h2]
 refine ⟨by omega, .inr trivial, ?_⟩
 refine callH (cloneOwn_ok g.log none m (by omega) hm) [.e 1, .l 29] ?_
 simp +decide -implicitDefEqProofs only [S0, simprocAttr, gfs, h4, h6, Option.getD_some, ss1_drop]
theorem ghasF {g : Gr} {i : Nat} (h : grOk g) (hi : i + 1 < g.n) : g.fol[i]? = some (gHas g i) := by
 unfold gHas
 rw [List.getElem?_eq_getElem (by have := h.2.2.1; omega), Option.getD_some]
theorem ackF {g : Gr} {i : Nat} (h : grOk g) (hi : i + 1 < g.n) : g.ack[i + 1]? = some ((g.ack[i + 1]?).getD 0) := by
 rw [List.getElem?_eq_getElem (by have := h.2.2.2.1; omega), Option.getD_some]
theorem grAck_ok {g : Gr} (h : grOk g) {i : Nat} (hi : i + 1 < g.n) {m : Int} (h0 : 0 ≤ m) (hm : m ≤ g.log.length) (hk : m ≤ (gHas g i).length) : OkH Tryz.prog 136 [.ptr (.e 0) 0 0, I ((i + 1 : Nat) : Int), I m] (grH g) (I 0) (grHv (gAck g i m) 0 0) := by
 have hd : decide (1 ≤ ((i + 1 : Nat) : Int) ∧ ((i + 1 : Nat) : Int) < g.n) = true := by rw [decide_eq_true_iff]; omega
 have h1 : ¬ (m < 0) := by omega
 have h2 : ¬ (m > g.log.length) := by omega
 have h3 : ¬ (m > (gHas g i).length) := by omega
 have h4 : ((i + 1 : Nat) : Int) < g.n := by omega
 have hx := ghasF h hi
 have ha := ackF h hi
 refine OkH.of_wp (rs := [.tmp 6]) (n := 49) [] Tryz.func136 rfl rfl rfl (by simp) fo (by kernel_rfl) ?_
 simp +decide -implicitDefEqProofs only [S0, simprocAttr]
 refine callH (grIs_ok g ((i + 1 : Nat) : Int)) [.e 0, .e 1, .e 2, .e 3, .e 4] ?_
 rw [hd]
 unfold gAck
 generalize (g.ack[i + 1]?).getD 0 = b at ha ⊢
 simp +decide -implicitDefEqProofs only [S0, simprocAttr, gfs, h1, h2, h3, h4, Nat.mul_one, List.drop_succ_cons, fols_drop hx, ha, Option.getD_some, List.map_set]
 have e : max b m = if m > b then m else b := by split <;> omega
 rw [e]
 exact List.prefix_rfl
abbrev grL (g : Gr) : Hp := [(.e 0, 0, .cells 131 (grC g 0 0)), (.e 1, 0, .row 9 1 none (ss1 g.log)), (.e 2, 0, .cells 33 (grHas g 0)), (.e 3, 0, .row 9 1 none (ss1 g.log)), (.e 4, 0, .row 3 1 (some g.n) (is1 g.ack))]
theorem agr_nil (l : List ByteArray) : agr [] l = true := by cases l <;> rfl
theorem agr_nil2 (l : List ByteArray) : agr l [] = true := by cases l <;> rfl
theorem grTake_ok {g : Gr} (h : grOk g) {i fr : Nat} (hi : i + 1 < g.n) (l : List ByteArray) (hl : l.length ≤ 60) : OkH Tryz.prog 32 [.ptr (.e 0) 0 0, I ((i + 1 : Nat) : Int), I fr, strs l] (grH g) (.tup [I (if tkE g i fr l = 0 then (((tkL g i fr l).length : Nat) : Int) else 0), I (tkE g i fr l)]) (grHv (gTake g i fr l) 0 0) := by
 have hd : decide (1 ≤ ((i + 1 : Nat) : Int) ∧ ((i + 1 : Nat) : Int) < g.n) = true := by rw [decide_eq_true_iff]; omega
 have h4 : ((i + 1 : Nat) : Int) < g.n := by omega
 have hx := ghasF h hi
 have hj : i < g.fol.length := by have := h.2.2.1; omega
 have h5 := gHas_len h i
 have h1 : ¬ ((fr : Int) < 0) := by omega
 have h2 : ¬ ((l.length : Int) > 60) := by omega
 refine OkH.of_wp (rs := [.tmp 8, .tmp 9]) (n := 92) [] Tryz.func32 rfl rfl rfl (by simp) fo (by kernel_rfl) ?_
 simp +decide -implicitDefEqProofs only [S0, simprocAttr]
 refine callH (grIs_ok g ((i + 1 : Nat) : Int)) [.e 0, .e 1, .e 2, .e 3, .e 4] ?_
 rw [hd]
 have ps := gPut_same g hj
 generalize hF : gHas g i = F at hx h5 ps
 by_cases h3 : F.length < fr
 ·have e : tkE g i fr l = 9 := by unfold tkE; rw [hF, if_pos h3]
  have h3' : (fr : Int) > F.length := by omega
  unfold gTake
  rw [e]
  simp +decide -implicitDefEqProofs only [S0, simprocAttr, gfs, h1, h2, h3', h4, Nat.mul_one, List.drop_succ_cons, fols_drop hx, Option.getD_some]
 have h3' : ¬ ((fr : Int) > F.length) := by omega
 simp +decide -implicitDefEqProofs only [S0, simprocAttr, gfs, h1, h2, h3', h4, Nat.mul_one, List.drop_succ_cons, fols_drop hx, Option.getD_some]
 refine ALoop.st [0, 1, 2, 3, 10, 36, 37, 38] (fun (k : Nat) => [.ptr (.e 0) 0 0, I ((i + 1 : Nat) : Int), I fr, strs l, strs F, strs l, I l.length, I k]) (fun _ => grL g) (fun k => k ≤ l.length ∧ agr (F.drop fr) l = agr (F.drop (fr + k)) (l.drop k)) (fun k => l.length - k) [] 0 (by simp +decide -implicitDefEqProofs only [S0, simprocAttr, gfs]) (by simp +decide -implicitDefEqProofs only [S0, simprocAttr, gfs]) ⟨by omega, rfl⟩ ?_
 rintro k ⟨hk, ha⟩
 by_cases hk2 : (k : Int) < l.length
 ·obtain ⟨s, hs⟩ := lt_get (l := l) (i := k) (by omega)
  have hw := wr_add1 hk2 (by omega)
  have hs2 : l.drop k = s :: l.drop (k + 1) := by
   obtain ⟨q, e⟩ := List.getElem?_eq_some_iff.1 hs
   rw [List.drop_eq_getElem_cons q, e]
  have hw2 : IntKind.i64.wrap ((fr : Int) + k) = ((fr + k : Nat) : Int) := by rw [wr_i64 (by omega) (by omega)]; omega
  by_cases hq : fr + k < F.length
  ·obtain ⟨x, hx2⟩ := lt_get (l := F) (i := fr + k) hq
   have hF2 : F.drop (fr + k) = x :: F.drop (fr + k + 1) := by
    obtain ⟨q, e⟩ := List.getElem?_eq_some_iff.1 hx2
    rw [List.drop_eq_getElem_cons q, e]
   have hq' : ((fr + k : Nat) : Int) < F.length := by omega
   rw [hs2, hF2, agr] at ha
   by_cases hxs : x = s
   ·rw [decide_eq_true hxs, Bool.true_and] at ha
    simp +decide -implicitDefEqProofs only [S0, simprocAttr, gfs, hs, hk2, hw2, hq', hx2, hxs]
    exact Nxt.mk [] (k + 1) (by simp +decide -implicitDefEqProofs only [S0, simprocAttr, hw]) (by simp +decide -implicitDefEqProofs only [S0, simprocAttr, gfs]) ⟨by omega, ha⟩ (by omega)
   ·rw [decide_eq_false hxs, Bool.false_and] at ha
    have e : tkE g i fr l = 3 := by unfold tkE; rw [hF, if_neg h3, ha]; rfl
    have hxs' : decide (x = s) = false := decide_eq_false hxs
    unfold gTake
    rw [e]
    simp +decide -implicitDefEqProofs only [S0, simprocAttr, gfs, hs, hk2, hw2, hq', hx2, toList_beq, hxs', Option.getD_some]
  ·have hq' : ¬ (((fr + k : Nat) : Int) < F.length) := by omega
   rw [List.drop_eq_nil_of_le (show F.length ≤ fr + k by omega), agr_nil] at ha
   simp +decide -implicitDefEqProofs only [S0, simprocAttr, gfs, hs, hk2, hw2, hq']
   exact Nxt.mk [] (k + 1) (by simp +decide -implicitDefEqProofs only [S0, simprocAttr, hw]) (by simp +decide -implicitDefEqProofs only [S0, simprocAttr, gfs]) ⟨by omega, by rw [ha, List.drop_eq_nil_of_le (by omega), agr_nil]⟩ (by omega)
 ·obtain rfl : k = l.length := by omega
  rw [List.drop_eq_nil_of_le (Nat.le_refl l.length), agr_nil2] at ha
  have hw3 : IntKind.i64.wrap ((fr : Int) + l.length) = ((fr + l.length : Nat) : Int) := by rw [wr_i64 (by omega) (by omega)]; omega
  by_cases h60 : 60 < fr + l.length
  ·have e : tkE g i fr l = 2 := by unfold tkE; rw [hF, if_neg h3, ha, if_pos rfl, if_pos h60]
   have h60' : ((fr + l.length : Nat) : Int) > 60 := by omega
   unfold gTake
   rw [e]
   simp +decide -implicitDefEqProofs only [S0, simprocAttr, gfs, hk2, hw3, h60', Option.getD_some]
  ·have e : tkE g i fr l = 0 := by unfold tkE; rw [hF, if_neg h3, ha, if_pos rfl, if_neg h60]
   have h60' : ¬ (((fr + l.length : Nat) : Int) > 60) := by omega
   have e2 : tkL g i fr l = F ++ l.drop (F.length - fr) := by unfold tkL; rw [hF]
   unfold gTake
   rw [e, if_pos rfl, if_pos rfl, e2]
   by_cases hlt : F.length < fr + l.length
   ·have hlt' : ((fr + l.length : Nat) : Int) > F.length := by omega
    have hw4 : IntKind.i64.wrap ((F.length : Int) - fr) = ((F.length - fr : Nat) : Int) := by rw [wr_i64 (by omega) (by omega)]; omega
    have q1 : List.drop (F.length - fr) (List.map (fun s => [S s]) l) = ss1 (l.drop (F.length - fr)) := List.map_drop.symm
    have q2 : (l.drop (F.length - fr)).length = l.length - (F.length - fr) := List.length_drop
    have q3 : List.take (F.length + (l.length - (F.length - fr))) (ss1 F ++ ss1 (l.drop (F.length - fr))) = ss1 (F ++ l.drop (F.length - fr)) := by
     rw [List.take_of_length_le (by simp)]
     exact List.map_append.symm
    have q4 : (F ++ l.drop (F.length - fr)).length = F.length + (l.length - (F.length - fr)) := by rw [List.length_append, q2]
    rw [q4]
    unfold gPut
    simp +decide -implicitDefEqProofs only [S0, simprocAttr, gfs, hk2, hw3, hw4, h60', hlt', h4, Nat.mul_one, List.drop_succ_cons, fols_drop hx, Option.getD_some]
    refine callH (cloneStrsH_ok F (by omega)) [.l 75] ?_
    simp +decide -implicitDefEqProofs only [S0, simprocAttr, gfs, hw4, Option.getD_some, tk1, q1, q2, q3, h4, Nat.mul_one, List.take_succ_cons, List.drop_succ_cons, List.append_assoc, List.cons_append, List.nil_append, fols_mid hj, fols_put _ hj]
    exact ⟨by omega, by omega, by omega, by omega⟩
   ·have hlt' : ¬ (((fr + l.length : Nat) : Int) > F.length) := by omega
    have e3 : l.drop (F.length - fr) = [] := List.drop_eq_nil_of_le (by omega)
    rw [e3, List.append_nil, ps]
    simp +decide -implicitDefEqProofs only [S0, simprocAttr, gfs, hk2, hw3, h60', hlt', h4, Nat.mul_one, List.drop_succ_cons, fols_drop hx, Option.getD_some]
theorem grH_len {g : Gr} (h : grOk g) : g.ack ≠ [] := by
 intro e
 have := h.1
 have h2 := h.2.2.2.1
 rw [e] at h2
 simp at h2
 omega
theorem grSure_ok {g : Gr} (h : grOk g) : OkH Tryz.prog 138 [.ptr (.e 0) 0 0] (grH g) (I (gSure g)) (grHv g 0 0) := by
 have hn := h.2.1
 have hn1 := h.1
 have ha := h.2.2.2.1
 obtain ⟨x, hx⟩ := lt_get (l := sortI g.ack) (i := (g.n - 1) / 2) (by rw [sortI_len, ha]; omega)
 have e : gSure g = x := by unfold gSure; rw [show (g.ack.mergeSort fun x y => decide (x ≤ y)) = sortI g.ack from rfl, hx]; rfl
 have w1 : IntKind.i64.wrap ((g.n : Int) - 1) = ((g.n - 1 : Nat) : Int) := by rw [wr_i64 (by omega) (by omega)]; omega
 have w2 : IntKind.i64.wrap (((g.n - 1 : Nat) : Int).tdiv 2) = (((g.n - 1) / 2 : Nat) : Int) := by
  have : ((g.n - 1 : Nat) : Int).tdiv 2 = (((g.n - 1) / 2 : Nat) : Int) := by rw [Int.tdiv_eq_ediv_of_nonneg (by omega)]; omega
  rw [this, wr_i64 (by omega) (by omega)]
 have c1 := valsI_ok g.n (some g.n) (is1 g.ack)
 have c2 := sortedV_ok g.ack (grH_len h) (by omega) 75 (some g.n)
 rw [ha] at c2
 rw [e]
 refine OkH.of_wp (rs := [.tmp 2]) (n := 19) [] Tryz.func138 rfl rfl rfl (by simp) fo (by kernel_rfl) ?_
 simp +decide -implicitDefEqProofs only [S0, simprocAttr]
 refine callH c1 [.e 4, .l 8] ?_
 simp +decide -implicitDefEqProofs only [S0, simprocAttr, gfs]
 refine callH c2 [.l 8, .e 4] ?_
 simp +decide -implicitDefEqProofs only [S0, simprocAttr, gfs, w1, w2, hx, Option.getD_some]
end Go.Proofs.YtonolfpnidaflaaGreatDoor.E
