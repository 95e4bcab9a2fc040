/- Plain law: what a server answers is of no more than so much; what it tells by parts. No conditions. -/
import Derived.Test.YtonolfpnidaflaaGreatDoorSrvL
import Derived.Test.YtonolfpnidaflaaGreatDoorGSo
namespace Go.Proofs.YtonolfpnidaflaaGreatDoor.E
open Go
set_option linter.unusedSimpArgs false
set_option linter.unusedVariables false
set_option linter.unusedSectionVars false
set_option maxRecDepth 20000
theorem lens_sub {l m : List Vn} (h : lensOk l) (k : ∀ v ∈ m, v ∈ l) : lensOk m := fun v hv => h v (k v hv)
theorem part_sub {a : Int} {l : List Vn} : ∀ v ∈ partL a l, v ∈ l := fun v hv => by unfold partL at hv; exact (List.mem_filter.1 hv).1
theorem oneG_lens {l : List Vn} (h : chkSt l = 0) (id : ByteArray) : (oneG l id).vs.length ≤ 1 ∧ lensOk (oneG l id).vs := by
 unfold oneG
 split
 ·rename_i r e
  obtain ⟨_, v, hv, rfl⟩ := getN_some e
  refine ⟨by simp, fun x hx => ?_⟩
  simp only [List.mem_singleton] at hx
  subst hx
  exact chkSt_lens h v hv
 ·exact ⟨by simp [tdE], fun x hx => by cases hx⟩
theorem td_nil (e : Int) : (tdE e).vs.length ≤ 1000000 ∧ lensOk (tdE e).vs ∧ (tdE e).ids.length ≤ 1000000 ∧ (tdE e).nts.length ≤ 1000000 := ⟨Nat.zero_le _, fun _ h => (by cases h), Nat.zero_le _, Nat.zero_le _⟩
theorem oneG_all {l : List Vn} (h : chkSt l = 0) (id : ByteArray) : (oneG l id).vs.length ≤ 1000000 ∧ lensOk (oneG l id).vs ∧ (oneG l id).ids.length ≤ 1000000 ∧ (oneG l id).nts.length ≤ 1000000 := by
 have := oneG_lens h id
 rw [oneG_ids.1, oneG_ids.2]
 exact ⟨by omega, this.2, Nat.zero_le _, Nat.zero_le _⟩
theorem td_lens {s : Sv} (hs : svOk s) (o : OpS) : (doS s o).2.vs.length ≤ 1000000 ∧ lensOk (doS s o).2.vs ∧ (doS s o).2.ids.length ≤ 1000000 ∧ (doS s o).2.nts.length ≤ 1000000 := by
 have hl := chkSt_len hs.2.2.1
 have hp := chkSt_part (a := sSees s o.who) hs.2.2.1
 have hpl := chkSt_len hp
 have hn := hs.2.2.2
 rcases doS_cases s o with ⟨k, e⟩ | ⟨k, e⟩ | ⟨k, e⟩ | ⟨k, e⟩ | ⟨k, e⟩ | ⟨k, e⟩ | ⟨k, e⟩ <;> rw [e]
 ·split <;> exact td_nil _
 ·rw [doPut_td]; exact td_nil _
 ·rw [doCut_td]; exact td_nil _
 ·unfold doNeed
  split
  ·split
   ·exact td_nil _
   ·split <;> exact oneG_all hs.2.2.1 _
  ·exact td_nil _
 ·simp only [doAudit]
  split
  ·split
   ·exact ⟨Nat.zero_le _, fun _ h => (by cases h), Nat.zero_le _, by show s.notes.length ≤ _; omega⟩
   ·exact td_nil _
  ·exact td_nil _
 ·simp only [doAsk]
  split
  ·split
   ·exact oneG_all hp _
   ·split
    ·split
     ·exact td_nil _
     ·have h1 := histL_len o.id (partL (sSees s o.who) s.l)
      exact ⟨by show (histL o.id _).length ≤ _; omega, lens_sub (chkSt_lens hp) fun v hv => (hist_mem hv).1, Nat.zero_le _, Nat.zero_le _⟩
    ·split
     ·have h1 := byL_len (partL (sSees s o.who) s.l) o.fd
      exact ⟨Nat.zero_le _, fun _ h => (by cases h), by show (byL _ _).length ≤ _; omega, Nat.zero_le _⟩
     ·exact td_nil _
  ·exact td_nil _
 ·exact td_nil _
end Go.Proofs.YtonolfpnidaflaaGreatDoor.E
