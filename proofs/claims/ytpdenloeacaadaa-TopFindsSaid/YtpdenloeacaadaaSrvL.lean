/- Plain law: what a server tells, and what it keeps to itself. No conditions. -/
import Derived.Test.YtpdenloeacaadaaSrvM
import Derived.Test.YtpdenloeacaadaaGRe
namespace Go.Proofs.Ytpdenloeacaadaa.E
open Go
set_option linter.unusedSimpArgs false
set_option linter.unusedVariables false
set_option linter.unusedSectionVars false
set_option maxRecDepth 20000
def runL (s : Sv) (l : List OpS) : Sv := l.foldl (fun s o => (doS s o).1) s
theorem runL_add (s : Sv) (l : List OpS) (o : OpS) : runL s (l ++ [o]) = (doS (runL s l) o).1 := by simp [runL]
theorem doS_up (s : Sv) (o : OpS) : (doS s o).1.up = s.up := by
 unfold doS doPut doCut doNeed
 repeat' split
 all_goals rfl
theorem runL_ok {s : Sv} (h : svOk s) (l : List OpS) : svOk (runL s l) ∧ (runL s l).up = s.up := by
 induction l using snoc_ind with
 | h0 => exact ⟨h, rfl⟩
 | h1 l o ih => rw [runL_add]; exact ⟨doS_ok ih.1, (doS_up _ _).trans ih.2⟩
def sv0 : Sv := ⟨[0, 1, 2], [], [], []⟩
theorem sv0_ok : svOk sv0 := ⟨by decide +kernel, by decide +kernel, by decide +kernel, by decide⟩
theorem up012 : chkUp [0, 1, 2] = 0 := by decide +kernel
/-- Who may ask a server with three roles. -/
def whoOk3 (w : Wh) : Prop := whoOk w = true ∧ 0 ≤ w.role ∧ w.role < 3
theorem sErr3 {s : Sv} {w : Wh} (hs : svOk s) (hu : s.up = [0, 1, 2]) (hw : whoOk3 w) : sErr s w = 0 := by
 unfold sErr
 have h2 := chkRs_of hs.2.1
 refine seesE_zero.2 ⟨⟨hs.1, hw.1, (chkAt_nz hs.1).2 ⟨hw.2.1, ?_⟩⟩, h2.1, chkR_iff.1 h2.2⟩
 rw [hu]
 exact hw.2.2
theorem sSees_lt {s : Sv} (hs : svOk s) (w : Wh) : sSees s w < 256 := seesF_lt (chkR_iff.1 (chkRs_of hs.2.1).2)
theorem oneG_vs {l : List Vn} {id : ByteArray} : ∀ v ∈ (oneG l id).vs, getN l id = some v.r ∧ v.gone = false := by
 intro v hv
 unfold oneG at hv
 split at hv
 ·rename_i r e
  simp only [List.mem_singleton] at hv
  subst hv
  exact ⟨e, rfl⟩
 ·cases hv
theorem part_mem {a : Int} {l : List Vn} {v : Vn} (h : v ∈ partL a l) : bnot v.r.cats a = 0 := by
 unfold partL at h
 have := (List.mem_filter.1 h).2
 unfold hid at this
 simpa using this
theorem hist_mem {id : ByteArray} {l : List Vn} {v : Vn} (h : v ∈ histL id l) : v ∈ l ∧ v.r.id = id := by
 unfold histL at h
 have := List.mem_filter.1 h
 refine ⟨this.1, ?_⟩
 have := this.2
 unfold hidI at this
 simpa using this
theorem getN_cats {a : Int} {l : List Vn} {id : ByteArray} {r : Rc} (h : getN (partL a l) id = some r) : bnot r.cats a = 0 := by
 obtain ⟨_, v, hv, rfl⟩ := getN_some h
 exact part_mem hv
theorem oneG_ids {l : List Vn} {id : ByteArray} : (oneG l id).ids = [] ∧ (oneG l id).nts = [] := by
 unfold oneG
 split <;> exact ⟨rfl, rfl⟩
theorem doPut_td (s : Sv) (o : OpS) : (doPut s o).2 = tdE (doPut s o).2.code := by
 unfold doPut
 repeat' split
 all_goals rfl
theorem doCut_td (s : Sv) (o : OpS) : (doCut s o).2 = tdE (doCut s o).2.code := by
 unfold doCut
 repeat' split
 all_goals rfl
theorem doNeed_ids (s : Sv) (o : OpS) : (doNeed s o).2.ids = [] ∧ (doNeed s o).2.nts = [] := by
 unfold doNeed
 repeat' split
 all_goals first
  | exact ⟨rfl, rfl⟩
  | exact oneG_ids
theorem doS_cases (s : Sv) (o : OpS) : (o.kind = 1 ∧ doS s o = (if chkRs o.rs = 0 then ({ s with rs := o.rs }, tdE 0) else (s, tdE (chkRs o.rs)))) ∨ (o.kind = 2 ∧ doS s o = doPut s o) ∨ (o.kind = 3 ∧ doS s o = doCut s o) ∨ (o.kind = 7 ∧ doS s o = doNeed s o) ∨ (o.kind = 8 ∧ doS s o = (s, doAudit s o)) ∨
  ((o.kind = 4 ∨ o.kind = 5 ∨ o.kind = 6) ∧ doS s o = (s, doAsk s o)) ∨ (¬ (1 ≤ o.kind ∧ o.kind ≤ 8) ∧ doS s o = (s, tdE 3)) := by
 unfold doS
 by_cases k1 : o.kind = 1
 ·rw [if_pos k1]; exact .inl ⟨k1, rfl⟩
 rw [if_neg k1]
 by_cases k2 : o.kind = 2
 ·rw [if_pos k2]; exact .inr (.inl ⟨k2, rfl⟩)
 rw [if_neg k2]
 by_cases k3 : o.kind = 3
 ·rw [if_pos k3]; exact .inr (.inr (.inl ⟨k3, rfl⟩))
 rw [if_neg k3]
 by_cases k7 : o.kind = 7
 ·rw [if_pos k7]; exact .inr (.inr (.inr (.inl ⟨k7, rfl⟩)))
 rw [if_neg k7]
 by_cases k8 : o.kind = 8
 ·rw [if_pos k8]; exact .inr (.inr (.inr (.inr (.inl ⟨k8, rfl⟩))))
 rw [if_neg k8]
 by_cases k : o.kind = 4 ∨ o.kind = 5 ∨ o.kind = 6
 ·rw [if_pos k]; exact .inr (.inr (.inr (.inr (.inr (.inl ⟨k, rfl⟩)))))
 rw [if_neg k]
 exact .inr (.inr (.inr (.inr (.inr (.inr ⟨by omega, rfl⟩)))))
/-- Nobody is told of a kind that they may not see. -/
theorem tells_vs {s : Sv} {o : OpS} (h7 : o.kind ≠ 7) : ∀ v ∈ (doS s o).2.vs, bnot v.r.cats (sSees s o.who) = 0 := by
 intro v hv
 rcases doS_cases s o with ⟨k, e⟩ | ⟨k, e⟩ | ⟨k, e⟩ | ⟨k, e⟩ | ⟨k, e⟩ | ⟨k, e⟩ | ⟨k, e⟩ <;> rw [e] at hv
 ·split at hv <;> cases hv
 ·rw [doPut_td] at hv; cases hv
 ·rw [doCut_td] at hv; cases hv
 ·exact absurd k h7
 ·simp only [doAudit] at hv
  split at hv
  ·split at hv <;> cases hv
  ·cases hv
 ·simp only [doAsk] at hv
  split at hv
  ·split at hv
   ·exact getN_cats (oneG_vs v hv).1
   ·split at hv
    ·split at hv
     ·cases hv
     ·exact part_mem (hist_mem hv).1
    ·split at hv <;> cases hv
  ·cases hv
 ·cases hv
theorem tells_ids {s : Sv} {o : OpS} : ∀ id ∈ (doS s o).2.ids, ∃ r, getN (partL (sSees s o.who) s.l) id = some r ∧ o.fd ∈ r.fields := by
 intro id hv
 rcases doS_cases s o with ⟨k, e⟩ | ⟨k, e⟩ | ⟨k, e⟩ | ⟨k, e⟩ | ⟨k, e⟩ | ⟨k, e⟩ | ⟨k, e⟩ <;> rw [e] at hv
 ·split at hv <;> cases hv
 ·rw [doPut_td] at hv; cases hv
 ·rw [doCut_td] at hv; cases hv
 ·rw [(doNeed_ids s o).1] at hv; cases hv
 ·simp only [doAudit] at hv
  split at hv
  ·split at hv <;> cases hv
  ·cases hv
 ·simp only [doAsk] at hv
  split at hv
  ·split at hv
   ·rw [oneG_ids.1] at hv; cases hv
   ·split at hv
    ·split at hv <;> cases hv
    ·split at hv
     ·have h2 := hasB_iff.2 hv
      rw [byL_mem, Bool.and_eq_true] at h2
      obtain ⟨r, hr⟩ := Option.isSome_iff_exists.1 h2.1
      refine ⟨r, hr, ?_⟩
      have h3 := h2.2
      unfold hasF at h3
      rw [hr] at h3
      simpa using h3
     ·cases hv
  ·cases hv
 ·cases hv
theorem tells_nts {s : Sv} {o : OpS} (hv : (doS s o).2.nts ≠ []) : sSees s o.who = 255 := by
 rcases doS_cases s o with ⟨k, e⟩ | ⟨k, e⟩ | ⟨k, e⟩ | ⟨k, e⟩ | ⟨k, e⟩ | ⟨k, e⟩ | ⟨k, e⟩ <;> rw [e] at hv
 ·split at hv <;> exact absurd rfl hv
 ·rw [doPut_td] at hv; exact absurd rfl hv
 ·rw [doCut_td] at hv; exact absurd rfl hv
 ·exact absurd (doNeed_ids s o).2 hv
 ·simp only [doAudit] at hv
  split at hv
  ·split at hv
   ·assumption
   ·exact absurd rfl hv
  ·exact absurd rfl hv
 ·simp only [doAsk] at hv
  repeat' split at hv
  all_goals first
   | exact absurd rfl hv
   | exact absurd oneG_ids.2 hv
 ·exact absurd rfl hv
/-- Who reads in need is noted. -/
theorem need_yes {s : Sv} {o : OpS} (h : o.kind = 7) (h0 : (doS s o).2.code = 0) : (doS s o).1.notes = s.notes ++ [⟨o.who, o.id⟩] ∧ ∃ r : Rc, (doS s o).2.vs = [⟨r, false⟩] ∧ r.id = o.id := by
 have e : doS s o = doNeed s o := by unfold doS; rw [if_neg (by omega), if_neg (by omega), if_neg (by omega), if_pos h]
 rw [e] at h0 ⊢
 unfold doNeed tdE at h0 ⊢
 by_cases g1 : sErr s o.who = 0
 ·rw [if_pos g1] at h0 ⊢
  by_cases g2 : s.notes.length = 60
  ·rw [if_pos g2] at h0; cases h0
  ·rw [if_neg g2] at h0 ⊢
   by_cases g3 : (oneG s.l o.id).code = 0
   ·rw [if_pos g3]
    refine ⟨rfl, ?_⟩
    unfold oneG at g3 ⊢
    cases e : getN s.l o.id with
    | none => rw [e] at g3; cases g3
    | some r => exact ⟨r, rfl, (getN_some e).1⟩
   ·rw [if_neg g3] at h0; exact absurd h0 g3
 ·rw [if_neg g1] at h0; exact absurd h0 g1
theorem need_no {s : Sv} {o : OpS} (h : ¬ (o.kind = 7 ∧ (doS s o).2.code = 0)) : (doS s o).1.notes = s.notes := by
 by_cases h7 : o.kind = 7
 ·have e : doS s o = doNeed s o := by unfold doS; rw [if_neg (by omega), if_neg (by omega), if_neg (by omega), if_pos h7]
  have h0 : (doS s o).2.code ≠ 0 := fun x => h ⟨h7, x⟩
  rw [e] at h0 ⊢
  unfold doNeed at h0 ⊢
  by_cases g1 : sErr s o.who = 0
  ·rw [if_pos g1] at h0 ⊢
   by_cases g2 : s.notes.length = 60
   ·rw [if_pos g2]
   ·rw [if_neg g2] at h0 ⊢
    by_cases g3 : (oneG s.l o.id).code = 0
    ·rw [if_pos g3] at h0; exact absurd g3 h0
    ·rw [if_neg g3]
  ·rw [if_neg g1]
 ·unfold doS doPut doCut
  rw [if_neg h7]
  repeat' split
  all_goals rfl
theorem audit_yes {s : Sv} {o : OpS} (h : o.kind = 8) (h0 : (doS s o).2.code = 0) : (doS s o).2.nts = s.notes := by
 have e : (doS s o).2 = doAudit s o := by unfold doS; rw [if_neg (by omega), if_neg (by omega), if_neg (by omega), if_neg (by omega), if_pos h]
 rw [e] at h0 ⊢
 unfold doAudit tdE at h0 ⊢
 by_cases g1 : sErr s o.who = 0
 ·rw [if_pos g1] at h0 ⊢
  by_cases g2 : sSees s o.who = 255
  ·rw [if_pos g2]
  ·rw [if_neg g2] at h0; cases h0
 ·rw [if_neg g1] at h0; exact absurd h0 g1
theorem asks_same {s : Sv} {o : OpS} (h1 : o.kind ≠ 1) (h2 : o.kind ≠ 2) (h3 : o.kind ≠ 3) (h7 : o.kind ≠ 7) : (doS s o).1 = s := by
 unfold doS
 rw [if_neg h1, if_neg h2, if_neg h3, if_neg h7]
 repeat' split
 all_goals rfl
theorem oneG_bad {l : List Vn} {id : ByteArray} (h : (oneG l id).code ≠ 0) : (oneG l id).vs = [] := by
 unfold oneG at h ⊢
 split
 ·rename_i e; rw [e] at h; exact absurd rfl h
 ·rfl
theorem doNeed_bad {s : Sv} {o : OpS} (h : (doNeed s o).2.code ≠ 0) : (doNeed s o).2.vs = [] ∧ (doNeed s o).1 = s := by
 unfold doNeed at h ⊢
 by_cases g1 : sErr s o.who = 0
 ·rw [if_pos g1] at h ⊢
  by_cases g2 : s.notes.length = 60
  ·rw [if_pos g2]; exact ⟨rfl, rfl⟩
  ·rw [if_neg g2] at h ⊢
   by_cases g3 : (oneG s.l o.id).code = 0
   ·rw [if_pos g3] at h; exact absurd g3 h
   ·rw [if_neg g3]; exact ⟨oneG_bad g3, rfl⟩
 ·rw [if_neg g1]; exact ⟨rfl, rfl⟩
theorem doAsk_bad {s : Sv} {o : OpS} (h : (doAsk s o).code ≠ 0) : (doAsk s o).vs = [] ∧ (doAsk s o).ids = [] ∧ (doAsk s o).nts = [] := by
 unfold doAsk at h ⊢
 by_cases g1 : sErr s o.who = 0
 ·rw [if_pos g1] at h ⊢
  by_cases k4 : o.kind = 4
  ·rw [if_pos k4] at h ⊢; exact ⟨oneG_bad h, oneG_ids⟩
  ·rw [if_neg k4] at h ⊢
   by_cases k6 : o.kind = 6
   ·rw [if_pos k6] at h ⊢
    split
    ·exact ⟨rfl, rfl, rfl⟩
    ·rename_i g; rw [if_neg g] at h; exact absurd rfl h
   ·rw [if_neg k6] at h ⊢
    split
    ·rename_i g; rw [if_pos g] at h; exact absurd rfl h
    ·exact ⟨rfl, rfl, rfl⟩
 ·rw [if_neg g1]; exact ⟨rfl, rfl, rfl⟩
theorem doAudit_bad {s : Sv} {o : OpS} (h : (doAudit s o).code ≠ 0) : (doAudit s o).vs = [] ∧ (doAudit s o).ids = [] ∧ (doAudit s o).nts = [] := by
 unfold doAudit at h ⊢
 by_cases g1 : sErr s o.who = 0
 ·rw [if_pos g1] at h ⊢
  split
  ·rename_i g; rw [if_pos g] at h; exact absurd rfl h
  ·exact ⟨rfl, rfl, rfl⟩
 ·rw [if_neg g1]; exact ⟨rfl, rfl, rfl⟩
theorem doPut_bad {s : Sv} {o : OpS} (h : (doPut s o).2.code ≠ 0) : (doPut s o).1 = s := by
 unfold doPut at h ⊢
 by_cases g1 : chkRec o.rcd = 0
 ·rw [if_pos g1] at h ⊢
  by_cases g2 : sMay s o.who o.rcd.cats = 0
  ·rw [if_pos g2] at h ⊢
   by_cases g3 : putE s.l o.rcd = 0
   ·rw [if_pos g3] at h; exact absurd rfl h
   ·rw [if_neg g3]
  ·rw [if_neg g2]
 ·rw [if_neg g1]
theorem doCut_bad {s : Sv} {o : OpS} (h : (doCut s o).2.code ≠ 0) : (doCut s o).1 = s := by
 unfold doCut at h ⊢
 by_cases g2 : sMay s o.who o.rcd.cats = 0
 ·rw [if_pos g2] at h ⊢
  by_cases g3 : cutE s.l o.id o.rcd.cats = 0
  ·rw [if_pos g3] at h; exact absurd rfl h
  ·rw [if_neg g3]
 ·rw [if_neg g2]
/-- What is answered with an error changes nothing, and tells nothing. -/
theorem wrong_all {s : Sv} {o : OpS} (h : (doS s o).2.code ≠ 0) : (doS s o).1 = s ∧ (doS s o).2.vs = [] ∧ (doS s o).2.ids = [] ∧ (doS s o).2.nts = [] := by
 rcases doS_cases s o with ⟨k, e⟩ | ⟨k, e⟩ | ⟨k, e⟩ | ⟨k, e⟩ | ⟨k, e⟩ | ⟨k, e⟩ | ⟨k, e⟩ <;> rw [e] at h ⊢
 ·by_cases g : chkRs o.rs = 0
  ·rw [if_pos g] at h; exact absurd rfl h
  ·rw [if_neg g]; exact ⟨rfl, rfl, rfl, rfl⟩
 ·exact ⟨doPut_bad h, by rw [doPut_td]; exact ⟨rfl, rfl, rfl⟩⟩
 ·exact ⟨doCut_bad h, by rw [doCut_td]; exact ⟨rfl, rfl, rfl⟩⟩
 ·exact ⟨(doNeed_bad h).2, (doNeed_bad h).1, doNeed_ids s o⟩
 ·exact ⟨rfl, doAudit_bad h⟩
 ·exact ⟨rfl, doAsk_bad h⟩
 ·exact ⟨rfl, rfl, rfl, rfl⟩
/-- Nobody changes a record of a kind that they may not see. -/
theorem writes_not {s : Sv} {o : OpS} (h : (o.kind ≠ 2 ∧ o.kind ≠ 3) ∨ (doS s o).2.code ≠ 0) : (doS s o).1.l = s.l := by
 rcases h with ⟨h2, h3⟩ | h
 ·unfold doS doNeed
  rw [if_neg h2, if_neg h3]
  repeat' split
  all_goals rfl
 ·rw [(wrong_all h).1]
theorem sMay_zero {s : Sv} {w : Wh} {c : Int} (h : sMay s w c = 0) : sErr s w = 0 ∧ (0 ≤ c ∧ c < 256) ∧ bnot c (sSees s w) = 0 := by
 unfold sMay at h
 split at h
 ·rename_i h1
  split at h
  ·rename_i h2
   split at h
   ·rename_i h3; exact ⟨h1, h2, h3⟩
   ·cases h
  ·cases h
 ·rename_i h1; exact absurd h h1
theorem writes_yes {s : Sv} {o : OpS} (h : o.kind = 2 ∨ o.kind = 3) (h0 : (doS s o).2.code = 0) : ∃ v, (doS s o).1.l = s.l ++ [v] ∧ bnot v.r.cats (sSees s o.who) = 0 ∧ v.gone = decide (o.kind = 3) := by
 rcases h with h | h
 ·have e : doS s o = doPut s o := by unfold doS; rw [if_neg (by omega), if_pos h]
  rw [e] at h0 ⊢
  unfold doPut tdE at h0 ⊢
  by_cases g1 : chkRec o.rcd = 0
  ·rw [if_pos g1] at h0 ⊢
   by_cases g2 : sMay s o.who o.rcd.cats = 0
   ·rw [if_pos g2] at h0 ⊢
    by_cases g3 : putE s.l o.rcd = 0
    ·rw [if_pos g3]
     exact ⟨_, rfl, (sMay_zero g2).2.2, by rw [h]; rfl⟩
    ·rw [if_neg g3] at h0; exact absurd h0 g3
   ·rw [if_neg g2] at h0; exact absurd h0 g2
  ·rw [if_neg g1] at h0; exact absurd h0 g1
 ·have e : doS s o = doCut s o := by unfold doS; rw [if_neg (by omega), if_neg (by omega), if_pos h]
  rw [e] at h0 ⊢
  unfold doCut tdE at h0 ⊢
  by_cases g2 : sMay s o.who o.rcd.cats = 0
  ·rw [if_pos g2] at h0 ⊢
   by_cases g3 : cutE s.l o.id o.rcd.cats = 0
   ·rw [if_pos g3]
    exact ⟨_, rfl, (sMay_zero g2).2.2, by rw [h]; rfl⟩
   ·rw [if_neg g3] at h0; exact absurd h0 g3
  ·rw [if_neg g2] at h0; exact absurd h0 g2
end Go.Proofs.Ytpdenloeacaadaa.E
