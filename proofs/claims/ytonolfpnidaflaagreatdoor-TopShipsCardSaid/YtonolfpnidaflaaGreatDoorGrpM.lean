/- Plain law: a group, as steps. No conditions. -/
import Derived.Test.YtonolfpnidaflaaGreatDoorGBa
import Derived.Test.YtonolfpnidaflaaGreatDoorGSt
namespace Go.Proofs.YtonolfpnidaflaaGreatDoor.E
open Go
set_option linter.unusedSimpArgs false
set_option linter.unusedVariables false
set_option linter.unusedSectionVars false
set_option maxRecDepth 20000
def sortI (l : List Int) : List Int := l.mergeSort fun x y => decide (x ≤ y)
theorem sortI_len (l : List Int) : (sortI l).length = l.length := by unfold sortI; simp
structure Gr where
 n : Nat
 log : List ByteArray
 fol : List (List ByteArray)
 ack : List Int
/-- What is so of a group all along. -/
def grOk (g : Gr) : Prop := 1 ≤ g.n ∧ g.n ≤ 5 ∧ g.fol.length + 1 = g.n ∧ g.ack.length = g.n ∧ g.log.length ≤ 60 ∧ ∀ x ∈ g.fol, x.length ≤ 60
def gNew (n : Nat) : Gr := ⟨n, [], List.replicate (n - 1) [], List.replicate n 0⟩
def gAdd (g : Gr) (s : ByteArray) : Gr := { g with log := g.log ++ [s], ack := g.ack.set 0 ((g.log.length + 1 : Nat) : Int) }
/-- Is the one as the other, as far as both go? -/
def agr : List ByteArray → List ByteArray → Bool
 | x :: xs, y :: ys => decide (x = y) && agr xs ys
 | _, _ => true
/-- What a follower has (j: from 0 on). -/
def gHas (g : Gr) (j : Nat) : List ByteArray := (g.fol[j]?).getD []
def gLog (g : Gr) (i : Nat) : List ByteArray := match i with
 | 0 => g.log
 | j + 1 => gHas g j
def tkE (g : Gr) (j fr : Nat) (l : List ByteArray) : Int := if (gHas g j).length < fr then 9 else if agr ((gHas g j).drop fr) l then (if 60 < fr + l.length then 2 else 0) else 3
def tkL (g : Gr) (j fr : Nat) (l : List ByteArray) : List ByteArray := gHas g j ++ l.drop ((gHas g j).length - fr)
def gPut (g : Gr) (j : Nat) (x : List ByteArray) : Gr := { g with fol := g.fol.set j x }
def gTake (g : Gr) (j fr : Nat) (l : List ByteArray) : Gr := if tkE g j fr l = 0 then gPut g j (tkL g j fr l) else g
def gAck (g : Gr) (j : Nat) (m : Int) : Gr := { g with ack := g.ack.set (j + 1) (max ((g.ack[j + 1]?).getD 0) m) }
def gLose (g : Gr) (j m : Nat) : Gr := if (g.ack[j + 1]?).getD 0 ≤ (m : Int) ∧ m ≤ (gHas g j).length then gPut g j ((gHas g j).take m) else g
def gSure (g : Gr) : Int := ((g.ack.mergeSort fun x y => decide (x ≤ y))[(g.n - 1) / 2]?).getD 0
theorem gNew_ok {n : Nat} (h1 : 1 ≤ n) (h5 : n ≤ 5) : grOk (gNew n) := by
 refine ⟨h1, h5, ?_, ?_, by simp [gNew], ?_⟩
 ·simp only [gNew, List.length_replicate]; omega
 ·simp only [gNew, List.length_replicate]
 ·intro x hx; simp only [gNew] at hx; rw [List.eq_of_mem_replicate hx]; simp
theorem gAdd_ok {g : Gr} (h : grOk g) (hl : g.log.length < 60) (s : ByteArray) : grOk (gAdd g s) := by
 obtain ⟨h1, h2, h3, h4, h5, h6⟩ := h
 exact ⟨h1, h2, h3, by simpa [gAdd] using h4, by simp [gAdd]; omega, h6⟩
theorem gPut_ok {g : Gr} (h : grOk g) (j : Nat) {x : List ByteArray} (hx : x.length ≤ 60) : grOk (gPut g j x) := by
 obtain ⟨h1, h2, h3, h4, h5, h6⟩ := h
 refine ⟨h1, h2, by simpa [gPut] using h3, h4, h5, fun y hy => ?_⟩
 rcases List.mem_or_eq_of_mem_set hy with hy | rfl
 ·exact h6 y hy
 ·exact hx
theorem gHas_len {g : Gr} (h : grOk g) (j : Nat) : (gHas g j).length ≤ 60 := by
 unfold gHas
 cases e : g.fol[j]? with
 | none => simp
 | some x => exact h.2.2.2.2.2 x (List.mem_of_getElem? e)
theorem tkE_zero {g : Gr} {j fr : Nat} {l : List ByteArray} (h : tkE g j fr l = 0) : fr ≤ (gHas g j).length ∧ agr ((gHas g j).drop fr) l = true ∧ fr + l.length ≤ 60 := by
 unfold tkE at h
 split at h
 ·omega
 ·split at h
  ·rename_i h2
   split at h
   ·omega
   ·exact ⟨by omega, h2, by omega⟩
  ·omega
theorem tkL_len {g : Gr} {j fr : Nat} {l : List ByteArray} (h : fr ≤ (gHas g j).length) : (tkL g j fr l).length = max (gHas g j).length (fr + l.length) := by
 unfold tkL
 rw [List.length_append, List.length_drop]
 omega
theorem gTake_ok {g : Gr} (h : grOk g) (j fr : Nat) (l : List ByteArray) : grOk (gTake g j fr l) := by
 unfold gTake
 split
 ·rename_i e
  obtain ⟨e1, _, e3⟩ := tkE_zero e
  have := gHas_len h j
  exact gPut_ok h j (by rw [tkL_len e1]; omega)
 ·exact h
theorem gAck_ok {g : Gr} (h : grOk g) (j : Nat) (m : Int) : grOk (gAck g j m) := by
 obtain ⟨h1, h2, h3, h4, h5, h6⟩ := h
 exact ⟨h1, h2, h3, by simpa [gAck] using h4, h5, h6⟩
theorem gLose_ok {g : Gr} (h : grOk g) (j m : Nat) : grOk (gLose g j m) := by
 unfold gLose
 split
 ·have := gHas_len h j
  exact gPut_ok h j (by rw [List.length_take]; omega)
 ·exact h
theorem gPut_same (g : Gr) {j : Nat} (hj : j < g.fol.length) : gPut g j (gHas g j) = g := by
 unfold gPut gHas
 rw [List.getElem?_eq_getElem hj, Option.getD_some, List.set_getElem_self]
theorem gHas_put (g : Gr) {j : Nat} (hj : j < g.fol.length) (x : List ByteArray) (i : Nat) : gHas (gPut g j x) i = if i = j then x else gHas g i := by
 unfold gHas gPut
 rw [List.getElem?_set]
 by_cases e : j = i
 ·subst e; simp [hj]
 ·rw [if_neg e, if_neg (fun h => e h.symm)]
/-- The followers' lists, as cells. -/
def fols (l : List (List ByteArray)) : List AV := l.map fun x => strs x
theorem fols_len (l : List (List ByteArray)) : (fols l).length = l.length := by simp [fols]
theorem fols_drop {l : List (List ByteArray)} {j : Nat} {x : List ByteArray} (h : l[j]? = some x) : List.drop j (fols l) = strs x :: List.drop (j + 1) (fols l) := by
 obtain ⟨hj, rfl⟩ := List.getElem?_eq_some_iff.1 h
 rw [List.drop_eq_getElem_cons (by rw [fols_len]; exact hj)]
 simp [fols]
theorem fols_put {l : List (List ByteArray)} {j : Nat} (x : List ByteArray) (h : j < l.length) : List.take j (fols l) ++ strs x :: List.drop (j + 1) (fols l) = fols (l.set j x) := by
 unfold fols
 rw [List.map_set, List.set_eq_take_append_cons_drop, if_pos (by simpa using h)]
theorem fols_mid {l : List (List ByteArray)} {j : Nat} (h : j < l.length) (x : AV) (r : List AV) : List.drop j (List.take j (fols l) ++ x :: r) = x :: r := by
 have e : (List.take j (fols l)).length = j := by rw [List.length_take, fols_len]; omega
 rw [List.drop_append, e, List.drop_eq_nil_of_le (by omega), Nat.sub_self, List.nil_append, List.drop_zero]
theorem fols_all {p : AV → Prop} (hp : ∀ x, p (strs x)) (l : List (List ByteArray)) : ∀ x ∈ fols l, p x := by
 intro x hx
 obtain ⟨y, _, rfl⟩ := List.mem_map.1 hx
 exact hp y
theorem stsL_app (a b : List AV) : stsL (a ++ b) = stsL a ++ stsL b := by
 induction a with
 | nil => simp only [List.nil_append, stsL]
 | cons x a ih => simp only [List.cons_append, stsL, ih, List.append_assoc]
theorem stsL_nil {l : List AV} (h : ∀ x ∈ l, sts x = []) : stsL l = [] := by
 induction l with
 | nil => simp only [stsL]
 | cons x l ih => simp only [stsL, h x (by simp), ih (fun y hy => h y (by simp [hy])), List.nil_append]
theorem fols_sts (l : List (List ByteArray)) : stsL (fols l) = [] := stsL_nil (fols_all (fun x => by simp only [sts]) l)
theorem fols_stsT (l : List (List ByteArray)) (j : Nat) : stsL (List.take j (fols l)) = [] := stsL_nil fun x hx => fols_all (p := fun x => sts x = []) (fun x => by simp only [sts]) l x (List.mem_of_mem_take hx)
theorem fols_stsD (l : List (List ByteArray)) (j : Nat) : stsL (List.drop j (fols l)) = [] := stsL_nil fun x hx => fols_all (p := fun x => sts x = []) (fun x => by simp only [sts]) l x (List.mem_of_mem_drop hx)
theorem rnL_app (g : Site → Nat → Option (Site × Nat)) (a b : List AV) : rnL g (a ++ b) = rnL g a ++ rnL g b := by
 induction a with
 | nil => simp only [List.nil_append, rnL]
 | cons x a ih => simp only [List.cons_append, rnL, ih]
theorem rnL_id {g : Site → Nat → Option (Site × Nat)} {l : List AV} (h : ∀ x ∈ l, rn g x = x) : rnL g l = l := by
 induction l with
 | nil => simp only [rnL]
 | cons x l ih => simp only [rnL, h x (by simp), ih (fun y hy => h y (by simp [hy]))]
theorem fols_rn (g : Site → Nat → Option (Site × Nat)) (l : List (List ByteArray)) : rnL g (fols l) = fols l := rnL_id (fols_all (fun x => by simp only [rn]) l)
theorem fols_rnT (g : Site → Nat → Option (Site × Nat)) (l : List (List ByteArray)) (j : Nat) : rnL g (List.take j (fols l)) = List.take j (fols l) := rnL_id fun x hx => fols_all (p := fun x => rn g x = x) (fun x => by simp only [rn]) l x (List.mem_of_mem_take hx)
theorem fols_rnD (g : Site → Nat → Option (Site × Nat)) (l : List (List ByteArray)) (j : Nat) : rnL g (List.drop j (fols l)) = List.drop j (fols l) := rnL_id fun x hx => fols_all (p := fun x => rn g x = x) (fun x => by simp only [rn]) l x (List.mem_of_mem_drop hx)
theorem fzL_app (hp : Hp) (g : Site → Nat → Option (Site × Nat)) (a b : List AV) : fzL hp g (a ++ b) = fzL hp g a ++ fzL hp g b := by
 induction a with
 | nil => rw [List.nil_append, show fzL hp g [] = [] from rfl, List.nil_append]
 | cons x a ih => rw [List.cons_append, zl_cons, zl_cons, ih, List.cons_append]
theorem fzL_id {hp : Hp} {g : Site → Nat → Option (Site × Nat)} {l : List AV} (h : ∀ x ∈ l, fz hp g x = x) : fzL hp g l = l := by
 induction l with
 | nil => rfl
 | cons x l ih => rw [zl_cons, h x (by simp), ih (fun y hy => h y (by simp [hy]))]
theorem fols_fz (hp : Hp) (g : Site → Nat → Option (Site × Nat)) (l : List (List ByteArray)) : fzL hp g (fols l) = fols l := fzL_id (fols_all (fun x => by simp only [fz]) l)
theorem fols_fzT (hp : Hp) (g : Site → Nat → Option (Site × Nat)) (l : List (List ByteArray)) (j : Nat) : fzL hp g (List.take j (fols l)) = List.take j (fols l) := fzL_id fun x hx => fols_all (p := fun x => fz hp g x = x) (fun x => by simp only [fz]) l x (List.mem_of_mem_take hx)
theorem fols_fzD (hp : Hp) (g : Site → Nat → Option (Site × Nat)) (l : List (List ByteArray)) (j : Nat) : fzL hp g (List.drop j (fols l)) = List.drop j (fols l) := fzL_id fun x hx => fols_all (p := fun x => fz hp g x = x) (fun x => by simp only [fz]) l x (List.mem_of_mem_drop hx)
theorem fols_cc (nb : Nat → Prop) (l : List (List ByteArray)) : CvC nb (fols l) (fols l) = True := by
 refine eq_true ?_
 unfold fols
 induction l with
 | nil => exact trivial
 | cons x l ih => rw [List.map_cons, cc_cons]; exact ⟨(rfl : strs x = strs x), ih⟩
theorem fols_sub (l : List (List ByteArray)) : SubC (fols l) (fols l) = True := by
 refine eq_true ?_
 unfold fols
 induction l with
 | nil => exact trivial
 | cons x l ih => rw [List.map_cons]; simp only [SubC]; exact ⟨(rfl : strs x = strs x), ih⟩
theorem fols_to (ad : List Site) (hp G : Hp) (l : List (List ByteArray)) : toL ad hp G (fols l) (fols l) = True := by
 refine eq_true ?_
 unfold fols
 induction l with
 | nil => rw [List.map_nil, toL_nil]; trivial
 | cons x l ih => rw [List.map_cons, toL_cons, to_list]; exact ⟨⟨rfl, rfl⟩, ih⟩
theorem gfs : (∀ l, (fols l).length = l.length) ∧ (∀ l, stsL (fols l) = []) ∧ (∀ l j, stsL (List.take j (fols l)) = []) ∧ (∀ l j, stsL (List.drop j (fols l)) = []) ∧ (∀ a b, stsL (a ++ b) = stsL a ++ stsL b) ∧ (∀ g l, rnL g (fols l) = fols l) ∧ (∀ g l j, rnL g (List.take j (fols l)) = List.take j (fols l)) ∧ (∀ g l j, rnL g (List.drop j (fols l)) = List.drop j (fols l)) ∧ (∀ g a b, rnL g (a ++ b) = rnL g a ++ rnL g b) ∧ (∀ h g l, fzL h g (fols l) = fols l) ∧ (∀ h g l j, fzL h g (List.take j (fols l)) = List.take j (fols l)) ∧ (∀ h g l j, fzL h g (List.drop j (fols l)) = List.drop j (fols l)) ∧ (∀ h g a b, fzL h g (a ++ b) = fzL h g a ++ fzL h g b) ∧ (∀ nb l, CvC nb (fols l) (fols l) = True) ∧ (∀ l, SubC (fols l) (fols l) = True) ∧ (∀ ad h G l, toL ad h G (fols l) (fols l) = True) :=
 ⟨fols_len, fols_sts, fols_stsT, fols_stsD, stsL_app, fols_rn, fols_rnT, fols_rnD, rnL_app, fols_fz, fols_fzT, fols_fzD, fzL_app, fols_cc, fols_sub, fols_to⟩
end Go.Proofs.YtonolfpnidaflaaGreatDoor.E
