/- A row's room forgotten, at the head of a loop. No conditions. -/
import Derived.Test.YtonolfpnidaflaaGreatDoorGBa
namespace Go.Proofs.YtonolfpnidaflaaGreatDoor.E
open Go
set_option linter.unusedSimpArgs false
set_option linter.unusedVariables false
set_option linter.unusedSectionVars false
set_option maxRecDepth 20000
theorem Inv.wk {w : World} {c : Cx} {hp : Hp} {s : Site} {v k : Nat} {t : TypeId} {q : Option Nat} {rows : List (List AV)} (hi : Inv w c hp) (e : hp.get s = (v, .row t k q rows)) : Inv w c (hp.set s v (.row t k none rows)) := by
 refine ⟨hi.glob, fun s' => ?_, fun s' => ?_, hi.inj, hi.far, hi.lt, hi.farlt⟩
 ·rw [hi.cur s', Hp.get_set]
  split
  ·rename_i h; subst h; rw [e]
  ·rfl
 ·have := hi.ok s'
  rw [Hp.get_set]
  split
  ·rename_i h; subst h
   rw [e] at this
   simp only [BlkOk] at this ⊢
   obtain ⟨h1, h2, h3, h4⟩ := this
   refine ⟨h1, h2, h3, ?_⟩
   split at h4
   ·exact ⟨h4.1, .inl trivial⟩
   ·exact ⟨.inl trivial, h4.2⟩
  ·exact this
theorem Less.wk {tm : List (Nat × AV)} {hp : Hp} {n : Nat} {s : Site} {v k : Nat} {t : TypeId} {q : Option Nat} {rows : List (List AV)} (e : hp.get s = (v, .row t k q rows)) : Less ⟨tm, hp, n⟩ ⟨tm, hp.set s v (.row t k none rows), n⟩ := fun {w c a} hs =>
 ⟨c, ExtW.refl _ _, hs.size, hs.tm, hs.inv.wk e, hs.df⟩
/-- A loop, at the head of which a row's room is forgotten. -/
theorem ALoop.stW {σ : Type} {W : (Ex → ASt → Prop) → ASt → Prop} {K : Ex → ASt → Prop} {tm : List (Nat × AV)} {hp : Hp} {n : Nat} (s : Site) {v k : Nat} {t : TypeId} {q : Option Nat} {rows : List (List AV)} (e : hp.get s = (v, .row t k q rows)) (ids : List Nat) (vals : σ → List AV) (hps : σ → Hp) (inv : σ → Prop) (meas : σ → Nat) (ad : List Site) (s0 : σ)
  (h : toK ad (hp.set s v (.row t k none rows)) (hps s0) tm ids (vals s0)) (hh : toH ad (hp.set s v (.row t k none rows)) (hps s0)) (hi : inv s0)
  (hr : ∀ s, inv s → W (Ex.then (Nxt ids vals hps inv meas n (meas s)) K) (atHead ids (vals s) (hps s) n)) : ALoop W K ⟨tm, hp, n⟩ := by
 refine ALoop.inv (fun m st => ∃ s, inv s ∧ m = meas s ∧ st = atHead ids (vals s) (hps s) n) (meas s0) (atHead ids (vals s0) (hps s0) n) (Less.trans (Less.wk e) (Less.to h hh)) ⟨s0, hi, rfl, rfl⟩ ?_
 rintro m st ⟨s, hs, rfl, rfl⟩
 exact hr s hs
end Go.Proofs.YtonolfpnidaflaaGreatDoor.E
