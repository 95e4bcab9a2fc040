/- Several texts in one: OpS SrvM SrvL Srv. No conditions. -/
import Derived.Test.YtonolfpnidaflaaGreatDoorGLa
import Derived.Test.YtonolfpnidaflaaGreatDoorGSt
import Derived.Test.YtonolfpnidaflaaGreatDoorGSo
import Derived.Test.YtonolfpnidaflaaGreatDoorGRe
namespace Go.Proofs.YtonolfpnidaflaaGreatDoor.E
open Go
set_option linter.unusedSimpArgs false
set_option linter.unusedVariables false
set_option linter.unusedSectionVars false
set_option maxRecDepth 20000
structure OpS where
 kind : Int
 who : Wh
 rs : List Rl
 rcd : Rc
 id : ByteArray
 fd : Fd
abbrev opC' (o : OpS) : List AV := [I o.kind, I o.who.role, I o.who.why, I o.who.time, rules o.rs, S o.rcd.id, I o.rcd.cats, fds o.rcd.fields, strs o.rcd.refs, S o.id, S o.fd.key, S o.fd.val]
abbrev opV (o : OpS) : AV := .agg (opC' o)
def inI (n : Int) : Prop := -9223372036854775808 ≤ n ∧ n ≤ 9223372036854775807
def whoI (w : Wh) : Prop := inI w.role ∧ inI w.why ∧ inI w.time
end Go.Proofs.YtonolfpnidaflaaGreatDoor.E

namespace Go.Proofs.YtonolfpnidaflaaGreatDoor.E
open Go
set_option linter.unusedSimpArgs false
set_option linter.unusedVariables false
set_option linter.unusedSectionVars false
set_option maxRecDepth 20000
structure Nt where
 who : Wh
 id : ByteArray
structure Sv where
 up : List Int
 rs : List Rl
 l : List Vn
 notes : List Nt
structure Td where
 code : Int
 vs : List Vn
 ids : List ByteArray
 nts : List Nt
def tdE (e : Int) : Td := ⟨e, [], [], []⟩
/-- What is so of a server all along. -/
def svOk (s : Sv) : Prop := chkUp s.up = 0 ∧ chkRs s.rs = 0 ∧ chkSt s.l = 0 ∧ s.notes.length ≤ 60
def sSees (s : Sv) (w : Wh) : Nat := seesF (fitsW s.up w) s.rs
def sErr (s : Sv) (w : Wh) : Int := seesE s.up s.rs w
/-- May who asks see, or write, these kinds? -/
def sMay (s : Sv) (w : Wh) (c : Int) : Int := if sErr s w = 0 then (if 0 ≤ c ∧ c < 256 then (if bnot c (sSees s w) = 0 then 0 else 6) else 1) else sErr s w
def oneG (l : List Vn) (id : ByteArray) : Td := match getN l id with
 | some r => ⟨0, [⟨r, false⟩], [], []⟩
 | none => tdE 4
def doPut (s : Sv) (o : OpS) : Sv × Td :=
 if chkRec o.rcd = 0 then (if sMay s o.who o.rcd.cats = 0 then (if putE s.l o.rcd = 0 then ({ s with l := s.l ++ [⟨o.rcd, false⟩] }, tdE 0) else (s, tdE (putE s.l o.rcd))) else (s, tdE (sMay s o.who o.rcd.cats))) else (s, tdE (chkRec o.rcd))
def doCut (s : Sv) (o : OpS) : Sv × Td :=
 if sMay s o.who o.rcd.cats = 0 then (if cutE s.l o.id o.rcd.cats = 0 then ({ s with l := s.l ++ [⟨⟨o.id, o.rcd.cats, [], []⟩, true⟩] }, tdE 0) else (s, tdE (cutE s.l o.id o.rcd.cats))) else (s, tdE (sMay s o.who o.rcd.cats))
def doNeed (s : Sv) (o : OpS) : Sv × Td :=
 if sErr s o.who = 0 then (if s.notes.length = 60 then (s, tdE 2) else (if (oneG s.l o.id).code = 0 then ({ s with notes := s.notes ++ [⟨o.who, o.id⟩] }, oneG s.l o.id) else (s, oneG s.l o.id))) else (s, tdE (sErr s o.who))
def doAsk (s : Sv) (o : OpS) : Td :=
 if sErr s o.who = 0 then
  (if o.kind = 4 then oneG (partL (sSees s o.who) s.l) o.id
   else if o.kind = 6 then (if (histL o.id (partL (sSees s o.who) s.l)).length = 0 then tdE 4 else ⟨0, histL o.id (partL (sSees s o.who) s.l), [], []⟩)
   else (if byOk o.fd then ⟨0, [], byL (partL (sSees s o.who) s.l) o.fd, []⟩ else tdE 3))
 else tdE (sErr s o.who)
def doAudit (s : Sv) (o : OpS) : Td := if sErr s o.who = 0 then (if sSees s o.who = 255 then ⟨0, [], [], s.notes⟩ else tdE 6) else tdE (sErr s o.who)
def doS (s : Sv) (o : OpS) : Sv × Td :=
 if o.kind = 1 then (if chkRs o.rs = 0 then ({ s with rs := o.rs }, tdE 0) else (s, tdE (chkRs o.rs)))
 else if o.kind = 2 then doPut s o
 else if o.kind = 3 then doCut s o
 else if o.kind = 7 then doNeed s o
 else if o.kind = 8 then (s, doAudit s o)
 else if o.kind = 4 ∨ o.kind = 5 ∨ o.kind = 6 then (s, doAsk s o)
 else (s, tdE 3)
theorem chkGo_cnt : ∀ (m p : List Vn), (∀ c, cnt p c ≤ 20) → chkGo p m = 0 → ∀ c, cnt (p ++ m) c ≤ 20 := by
 intro m
 induction m with
 | nil => intro p hp _ c; rw [List.append_nil]; exact hp c
 | cons v m ih =>
  intro p hp h c
  simp only [chkGo] at h
  split at h
  ·rename_i h0
   have h1 : cnt p v.r.cats + 1 ≤ 20 := by
    unfold stepE at h0
    split at h0
    ·split at h0
     ·cases h0
     ·omega
    ·rename_i h1; exact absurd h0 h1
   have := ih (p ++ [v]) (fun c => by
    rw [cnt_add]
    split
    ·rename_i e; rw [← e]; omega
    ·exact hp c) h c
   rwa [List.append_assoc] at this
  ·rename_i h0; exact absurd h h0
theorem chkSt_cnt {l : List Vn} (h : chkSt l = 0) (c : Int) : cnt l c ≤ 20 := by
 have hl := (chkSt_len h).1
 unfold chkSt at h
 rw [if_neg (by omega)] at h
 exact chkGo_cnt l [] (fun c => by simp [cnt]) h c
theorem sum_add (f g : Nat → Nat) (n : Nat) : ((List.range n).map fun c => f c + g c).sum = ((List.range n).map f).sum + ((List.range n).map g).sum := by
 induction n with
 | zero => rfl
 | succ n ih => rw [List.range_succ, List.map_append, List.map_append, List.map_append, List.sum_append, List.sum_append, List.sum_append, ih]; simp; omega
theorem sum_one (k n : Nat) (h : k < n) : ((List.range n).map fun c => if k = c then 1 else 0).sum = 1 := by
 induction n with
 | zero => omega
 | succ n ih =>
  rw [List.range_succ, List.map_append, List.sum_append]
  by_cases e : k = n
  ·subst e
   have z : ∀ m, m ≤ k → ((List.range m).map fun c => if k = c then 1 else 0).sum = 0 := by
    intro m
    induction m with
    | zero => intro _; rfl
    | succ m ih2 => intro hm; rw [List.range_succ, List.map_append, List.sum_append, ih2 (by omega)]; simp; omega
   rw [z k (Nat.le_refl _)]; simp
  ·rw [ih (by omega)]; simp [e]
theorem cnt_sum (l : List Vn) (h : ∀ v ∈ l, 0 ≤ v.r.cats ∧ v.r.cats < 256) : ((List.range 256).map fun c => cnt l (c : Nat)).sum = l.length := by
 induction l using snoc_ind with
 | h0 => decide
 | h1 l v ih =>
  have hv := h v (by simp)
  have e : (fun c : Nat => cnt (l ++ [v]) (c : Int)) = fun c : Nat => cnt l (c : Int) + if v.r.cats.toNat = c then 1 else 0 := by
   funext c
   rw [cnt_add]
   congr 1
   have : v.r.cats = (c : Int) ↔ v.r.cats.toNat = c := by omega
   simp only [this]
  rw [e, sum_add, ih fun x hx => h x (by simp [hx]), sum_one _ _ (by omega), List.length_append, List.length_singleton]
theorem sum_le (f : Nat → Nat) (k : Nat) (n : Nat) (hf : ∀ c, f c ≤ 20) (hk : k < n) (hfk : f k < 20) : ((List.range n).map f).sum < 20 * n := by
 have all : ∀ m, ((List.range m).map f).sum ≤ 20 * m := by
  intro m
  induction m with
  | zero => simp
  | succ m ih => rw [List.range_succ, List.map_append, List.sum_append]; have := hf m; simp; omega
 induction n with
 | zero => omega
 | succ n ih =>
  rw [List.range_succ, List.map_append, List.sum_append]
  have := hf n
  by_cases e : k = n
  ·subst e; have := all k; simp; omega
  ·have := ih (by omega); simp; omega
theorem st_room {l : List Vn} (h : chkSt l = 0) {c : Int} (hc : 0 ≤ c ∧ c < 256) (hn : cnt l c ≠ 20) : l.length < 5120 := by
 have h1 := chkSt_cnt h c
 have := sum_le (fun k => cnt l (k : Nat)) c.toNat 256 (fun k => chkSt_cnt h k) (by omega) (by
  have : ((c.toNat : Nat) : Int) = c := by omega
  simp only [this]; omega)
 rw [cnt_sum l (fun v hv => mem_cats h hv)] at this
 omega
theorem put_st {l : List Vn} {r : Rc} (h : chkSt l = 0) (hp : putE l r = 0) : chkSt (l ++ [⟨r, false⟩]) = 0 := by
 have hr := (putE_inv hp).2
 have hc := (chkRec_iff.1 hr).2.1
 have hn : cnt l r.cats ≠ 20 := by
  intro e
  rw [putE, if_pos h, if_pos hr, if_pos e] at hp
  cases hp
 have h20 := chkSt_cnt h r.cats
 rw [chkSt_add h (st_room h hc hn)]
 exact stepE_put hr (by omega)
theorem cut_st {l : List Vn} {id : ByteArray} {c : Int} (h : chkSt l = 0) (hp : cutE l id c = 0) : chkSt (l ++ [⟨⟨id, c, [], []⟩, true⟩]) = 0 := by
 unfold cutE at hp
 rw [if_pos h] at hp
 split at hp
 ·rename_i h1
  split at hp
  ·rename_i hc
   split at hp
   ·rename_i hl
    split at hp
    ·cases hp
    ·rename_i hn
     have h20 := chkSt_cnt h c
     rw [chkSt_add h (st_room h hc hn)]
     exact stepE_cut h1 hc hl (by omega)
   ·cases hp
  ·cases hp
 ·cases hp
theorem doS_ok {s : Sv} {o : OpS} (h : svOk s) : svOk (doS s o).1 := by
 obtain ⟨h1, h2, h3, h4⟩ := h
 unfold doS doPut doCut doNeed
 repeat' split
 all_goals first
  | exact ⟨h1, h2, h3, h4⟩
  | (refine ⟨h1, ?_, h3, h4⟩; assumption)
  | (refine ⟨h1, h2, ?_, h4⟩; rename_i hp; exact put_st h3 hp)
  | (refine ⟨h1, h2, ?_, h4⟩; rename_i hp; exact cut_st h3 hp)
  | (refine ⟨h1, h2, h3, ?_⟩; simp only [List.length_append, List.length_singleton]; omega)
end Go.Proofs.YtonolfpnidaflaaGreatDoor.E

namespace Go.Proofs.YtonolfpnidaflaaGreatDoor.E
open Go
set_option linter.unusedSimpArgs false
set_option linter.unusedVariables false
set_option linter.unusedSectionVars false
set_option maxRecDepth 20000
theorem hist_mem {id : ByteArray} {l : List Vn} {v : Vn} (h : v ∈ histL id l) : v ∈ l ∧ v.r.id = id := by
 unfold histL at h
 have := List.mem_filter.1 h
 refine ⟨this.1, ?_⟩
 have := this.2
 unfold hidI at this
 simpa using this
theorem oneG_ids {l : List Vn} {id : ByteArray} : (oneG l id).ids = [] ∧ (oneG l id).nts = [] := by
 unfold oneG
 split <;> exact ⟨rfl, rfl⟩
theorem doPut_td (s : Sv) (o : OpS) : (doPut s o).2 = tdE (doPut s o).2.code := by
 unfold doPut
 repeat' split
 all_goals rfl
theorem doCut_td (s : Sv) (o : OpS) : (doCut s o).2 = tdE (doCut s o).2.code := by
 unfold doCut
 repeat' split
 all_goals rfl
theorem doNeed_ids (s : Sv) (o : OpS) : (doNeed s o).2.ids = [] ∧ (doNeed s o).2.nts = [] := by
 unfold doNeed
 repeat' split
 all_goals first
  | exact ⟨rfl, rfl⟩
  | exact oneG_ids
end Go.Proofs.YtonolfpnidaflaaGreatDoor.E

namespace Go.Proofs.YtonolfpnidaflaaGreatDoor.E
open Go
set_option linter.unusedSimpArgs false
set_option linter.unusedVariables false
set_option linter.unusedSectionVars false
set_option maxRecDepth 20000
set_option maxHeartbeats 1000000
abbrev ntC (n : Nt) : List AV := [I n.who.role, I n.who.why, I n.who.time, S n.id]
abbrev nts (l : List Nt) : AV := .list 4 (l.map ntC)
abbrev tdV (t : Td) : AV := .agg [I t.code, vers t.vs, strs t.ids, nts t.nts]
abbrev svC (s : Sv) (n : Nat) : List AV := [ints s.up, rules s.rs, vers s.l, .own (.e 1) n 4 0 s.notes.length]
abbrev svH (s : Sv) : List Blk := [.cells 86 (svC s 0), .row 93 4 none (s.notes.map ntC)]
abbrev svH' (s : Sv) (v : Nat) : List (Nat × Blk) := [(0, .cells 86 (svC s v)), (v, .row 93 4 none (s.notes.map ntC))]
theorem May_all (s : Sv) (w : Wh) (c : Int) (hs : svOk s) : Ok Tryz.prog 72 [ints s.up, rules s.rs, whoV w, I c] (.tup [B (decide (sMay s w c = 0)), I (if sErr s w = 0 then (if 0 ≤ c ∧ c < 256 then 0 else 1) else sErr s w)]) := by
 unfold sMay
 by_cases h : sErr s w = 0
 ·have h' := h
  unfold sErr at h'
  obtain ⟨g1, g2, g3⟩ := seesE_zero.1 h'
  rw [if_pos h, if_pos h]
  by_cases hc : 0 ≤ c ∧ c < 256
  ·obtain ⟨n, rfl⟩ : ∃ n : Nat, c = n := ⟨c.toNat, by omega⟩
   rw [if_pos hc, if_pos hc]
   have := May_ok' g1 g2 g3 (c := n) (by omega)
   have e : decide ((if bnot (n : Int) (sSees s w) = 0 then (0 : Int) else 6) = 0) = decide (bnot (n : Int) (seesF (fitsW s.up w) s.rs : Nat) = 0) := by
    unfold sSees
    by_cases e : bnot (n : Int) (seesF (fitsW s.up w) s.rs : Nat) = 0
    ·rw [if_pos e, decide_eq_true e]; rfl
    ·rw [if_neg e, decide_eq_false e]; rfl
   rw [e]
   exact this
  ·rw [if_neg hc, if_neg hc]
   refine Ok.of_wp (rs := [.tmp 8, .tmp 9]) (n := 29) Tryz.func72 rfl rfl rfl (by simp) fo (by kernel_rfl) ?_
   simp +decide -implicitDefEqProofs only [S0, simprocAttr]
   refine call_eq (Sees_ok' g1 g2 g3) ?_
   simp +decide -implicitDefEqProofs only [S0, simprocAttr]
   refine call_eq (Cats_ok c) ?_
   rw [decide_eq_false hc]
   simp +decide -implicitDefEqProofs only [S0, simprocAttr, decide_false]
 ·rw [if_neg h, if_neg h, decide_eq_false h]
  exact May_bad c h
theorem srvNew_ok {up : List Int} (h : chkUp up = 0) : OkH Tryz.prog 33 [ints up] [] (.tup [.ptr (.e 0) 1 0, I 0]) [(1, .cells 86 (svC ⟨up, [], [], []⟩ 1)), (1, .row 93 4 none [])] := by
 have hu := upOk_of h
 refine OkH.of_wp (rs := [.tmp 2, .tmp 3]) (n := 14) [some (.l 13), none] Tryz.func33 rfl rfl rfl (by simp) fo (by kernel_rfl) ?_
 simp +decide -implicitDefEqProofs only [S0, simprocAttr]
 refine call_eq (rCheck_ok up) ?_
 simp +decide -implicitDefEqProofs only [S0, simprocAttr, h]
 refine callH (cloneInts_ok up (by omega)) [.l 11] ?_
 simp +decide -implicitDefEqProofs only [S0, simprocAttr, tk1]
theorem srvPart_ok {s : Sv} (hs : svOk s) (w : Wh) : OkH Tryz.prog 41 [.ptr (.e 0) 0 0, whoV w] (svH s) (.tup [vers (if sErr s w = 0 then partL (sSees s w) s.l else []), I (sErr s w)]) (svH' s 0) := by
 refine OkH.of_wp (rs := [.tmp 4, .tmp 5]) (n := 32) [] Tryz.func41 rfl rfl rfl (by simp) fo (by kernel_rfl) ?_
 simp +decide -implicitDefEqProofs only [S0, simprocAttr]
 by_cases h : sErr s w = 0
 ·have h' := h
  unfold sErr at h'
  obtain ⟨g1, g2, g3⟩ := seesE_zero.1 h'
  refine call_eq (Sees_ok' g1 g2 g3) ?_
  simp +decide -implicitDefEqProofs only [S0, simprocAttr, h]
  refine call_eq (Part_okS hs.2.2.1 (seesF_lt g3)) ?_
  simp +decide -implicitDefEqProofs only [S0, simprocAttr, sSees, sErr, Option.getD_some]
 ·have h' := h
  unfold sErr at h'
  refine call_eq (Sees_bad h') ?_
  simp +decide -implicitDefEqProofs only [S0, simprocAttr, h, h', sErr, Option.getD_some]
theorem srvPut_ok {s : Sv} (hs : svOk s) (o : OpS) : OkH Tryz.prog 36 [.ptr (.e 0) 0 0, opV o] (svH s) (I (doPut s o).2.code) (svH' (doPut s o).1 0) := by
 refine OkH.of_wp (rs := [.tmp 4]) (n := 54) [] Tryz.func36 rfl rfl rfl (by simp) fo (by kernel_rfl) ?_
 unfold doPut
 simp +decide -implicitDefEqProofs only [S0, simprocAttr]
 refine call_eq (recCheck_ok o.rcd) ?_
 by_cases h1 : chkRec o.rcd = 0
 ·rw [if_pos h1]
  simp +decide -implicitDefEqProofs only [S0, simprocAttr, h1]
  refine call_eq (May_all s o.who o.rcd.cats hs) ?_
  have hc := (chkRec_iff.1 h1).2.1
  rw [if_pos hc]
  by_cases h2 : sErr s o.who = 0
  ·rw [if_pos h2]
   by_cases h3 : sMay s o.who o.rcd.cats = 0
   ·rw [if_pos h3, decide_eq_true h3]
    simp +decide -implicitDefEqProofs only [S0, simprocAttr]
    refine call_eq (Put_ok s.l o.rcd) ?_
    by_cases h4 : putE s.l o.rcd = 0
    ·rw [if_pos h4, if_pos h4]
     simp +decide -implicitDefEqProofs only [S0, simprocAttr, h4, tdE, Option.getD_some]
    ·rw [if_neg h4, if_neg h4]
     simp +decide -implicitDefEqProofs only [S0, simprocAttr, h4, tdE, Option.getD_some]
   ·rw [if_neg h3, decide_eq_false h3]
    have e6 : sMay s o.who o.rcd.cats = 6 := by
     unfold sMay at h3 ⊢
     rw [if_pos h2, if_pos hc] at h3 ⊢
     split
     ·rename_i g; rw [if_pos g] at h3; exact absurd rfl h3
     ·rfl
    simp +decide -implicitDefEqProofs only [S0, simprocAttr, e6, tdE, Option.getD_some]
  ·have e6 : sMay s o.who o.rcd.cats = sErr s o.who := by unfold sMay; rw [if_neg h2]
   have h2' := h2
   unfold sErr at h2'
   rw [e6, if_neg h2, if_neg h2]
   simp +decide -implicitDefEqProofs only [S0, simprocAttr, h2, h2', sErr, tdE, Option.getD_some]
 ·rw [if_neg h1]
  simp +decide -implicitDefEqProofs only [S0, simprocAttr, h1, tdE, Option.getD_some]
theorem srvCut_ok {s : Sv} (hs : svOk s) (o : OpS) : OkH Tryz.prog 37 [.ptr (.e 0) 0 0, opV o] (svH s) (I (doCut s o).2.code) (svH' (doCut s o).1 0) := by
 refine OkH.of_wp (rs := [.tmp 4]) (n := 50) [] Tryz.func37 rfl rfl rfl (by simp) fo (by kernel_rfl) ?_
 unfold doCut
 simp +decide -implicitDefEqProofs only [S0, simprocAttr]
 refine call_eq (May_all s o.who o.rcd.cats hs) ?_
 by_cases h2 : sErr s o.who = 0
 ·rw [if_pos h2]
  by_cases hc : 0 ≤ o.rcd.cats ∧ o.rcd.cats < 256
  ·rw [if_pos hc]
   by_cases h3 : sMay s o.who o.rcd.cats = 0
   ·rw [if_pos h3, decide_eq_true h3]
    simp +decide -implicitDefEqProofs only [S0, simprocAttr]
    refine call_eq (Cut_ok s.l o.id o.rcd.cats) ?_
    by_cases h4 : cutE s.l o.id o.rcd.cats = 0
    ·rw [if_pos h4, if_pos h4]
     simp +decide -implicitDefEqProofs only [S0, simprocAttr, h4, tdE, Option.getD_some]
    ·rw [if_neg h4, if_neg h4]
     simp +decide -implicitDefEqProofs only [S0, simprocAttr, h4, tdE, Option.getD_some]
   ·rw [if_neg h3, decide_eq_false h3]
    have e6 : sMay s o.who o.rcd.cats = 6 := by
     unfold sMay at h3 ⊢
     rw [if_pos h2, if_pos hc] at h3 ⊢
     split
     ·rename_i g; rw [if_pos g] at h3; exact absurd rfl h3
     ·rfl
    simp +decide -implicitDefEqProofs only [S0, simprocAttr, e6, tdE, Option.getD_some]
  ·have e6 : sMay s o.who o.rcd.cats = 1 := by unfold sMay; rw [if_pos h2, if_neg hc]
   rw [if_neg hc, e6]
   simp +decide -implicitDefEqProofs only [S0, simprocAttr, tdE, Option.getD_some]
 ·have e6 : sMay s o.who o.rcd.cats = sErr s o.who := by unfold sMay; rw [if_neg h2]
  have h2' := h2
  unfold sErr at h2'
  rw [e6, if_neg h2, if_neg h2]
  simp +decide -implicitDefEqProofs only [S0, simprocAttr, h2, h2', sErr, tdE, Option.getD_some]
theorem srvOne_ok {l : List Vn} (h : chkSt l = 0) (id : ByteArray) : Ok Tryz.prog 42 [vers l, S id] (.tup [vers (oneG l id).vs, I (oneG l id).code]) := by
 refine Ok.of_wp (rs := [.tmp 4, .tmp 5]) (n := 20) Tryz.func42 rfl rfl rfl (by simp) fo (by kernel_rfl) ?_
 unfold oneG
 simp +decide -implicitDefEqProofs only [S0, simprocAttr]
 refine call_eq (Get_okS h id) ?_
 cases e : getN l id with
 | none => simp +decide -implicitDefEqProofs only [S0, simprocAttr, e, tdE, Option.getD_some]
 | some r => simp +decide -implicitDefEqProofs only [S0, simprocAttr, e, Option.getD_some]; try rfl
theorem cloneNts_ok (l : List Nt) (hl : l.length ≤ 1000000) : OkH Tryz.prog 40 [.own (.e 0) 0 4 0 l.length] [.row 93 4 none (l.map ntC)] (.own (.e 1) 1 4 0 l.length) [(0, .row 93 4 none (l.map ntC)), (1, .row 93 4 none (l.map ntC))] := by
 refine OkH.of_wpX (rs := [.tmp 2]) (n := 8) Tryz.func40 rfl rfl rfl (by simp) fo (by kernel_rfl) ?_
 simp +decide -implicitDefEqProofs only [S0, simprocAttr]
 refine ⟨fun h => ⟨[none], ?_⟩, by rw [List.length_take, List.length_map]; omega, ⟨[some (.l 5)], ?_⟩⟩
 ·obtain rfl := List.eq_nil_of_length_eq_zero h
  simp +decide -implicitDefEqProofs only [S0, simprocAttr]
 ·simp +decide -implicitDefEqProofs only [S0, simprocAttr, tk1]
def vN (s : Sv) (o : OpS) : Nat := if sErr s o.who = 0 ∧ s.notes.length ≠ 60 ∧ (oneG s.l o.id).code = 0 then 1 else 0
theorem srvNeed_ok {s : Sv} (hs : svOk s) (o : OpS) : OkH Tryz.prog 38 [.ptr (.e 0) 0 0, opV o] (svH s) (.tup [vers (doNeed s o).2.vs, I (doNeed s o).2.code]) (svH' (doNeed s o).1 (vN s o)) := by
 refine OkH.of_wp (rs := [.tmp 4, .tmp 5]) (n := 61) [] Tryz.func38 rfl rfl rfl (by simp) fo (by kernel_rfl) ?_
 unfold doNeed vN
 have hn := hs.2.2.2
 simp +decide -implicitDefEqProofs only [S0, simprocAttr]
 by_cases h2 : sErr s o.who = 0
 ·have h' := h2
  unfold sErr at h'
  obtain ⟨g1, g2, g3⟩ := seesE_zero.1 h'
  refine call_eq (Sees_ok' g1 g2 g3) ?_
  by_cases h3 : s.notes.length = 60
  ·have h3' : (s.notes.length : Int) = 60 := by omega
   simp +decide -implicitDefEqProofs only [S0, simprocAttr, h2, h3, h3', tdE, Option.getD_some]
  ·have h3' : ¬ (s.notes.length : Int) = 60 := by omega
   simp +decide -implicitDefEqProofs only [S0, simprocAttr, h2, h3, h3']
   refine call_eq (srvOne_ok hs.2.2.1 o.id) ?_
   by_cases h4 : (oneG s.l o.id).code = 0
   ·simp +decide -implicitDefEqProofs only [S0, simprocAttr, h4, tk1, Option.getD_some]
    exact ⟨by omega, by rw [List.map_append]; exact List.prefix_rfl⟩
   ·simp +decide -implicitDefEqProofs only [S0, simprocAttr, h4, Option.getD_some]
 ·have h2' := h2
  unfold sErr at h2'
  refine call_eq (Sees_bad h2') ?_
  simp +decide -implicitDefEqProofs only [S0, simprocAttr, h2, h2', sErr, tdE, Option.getD_some]
theorem Hist_okV {l : List Vn} (h : chkSt l = 0) (id : ByteArray) : Ok Tryz.prog 43 [vers l, S id] (.tup [vers (histL id l), I (if (histL id l).length = 0 then 4 else 0)]) := by
 have := Hist_ok l id
 rwa [histE, if_pos h, if_pos h] at this
def vD (s : Sv) (o : OpS) : Nat := if o.kind = 7 then vN s o else 0
set_option maxHeartbeats 4000000 in
theorem srvDo_ok {s : Sv} (hs : svOk s) (o : OpS) : OkH Tryz.prog 11 [.ptr (.e 0) 0 0, opV o] (svH s) (tdV (doS s o).2) (svH' (doS s o).1 (vD s o)) := by
 refine OkH.of_wp (rs := [.cell 4 44]) (n := 140) [] Tryz.func11 rfl rfl rfl (by simp) fo (by kernel_rfl) ?_
 unfold doS vD
 have hn := hs.2.2.2
 simp +decide -implicitDefEqProofs only [S0, simprocAttr]
 by_cases k1 : o.kind = 1
 ·simp +decide -implicitDefEqProofs only [S0, simprocAttr, k1]
  refine call_eq (chkRules_ok o.rs) ?_
  by_cases h : chkRs o.rs = 0
  ·have hl := (chkRs_of h).1
   simp +decide -implicitDefEqProofs only [S0, simprocAttr, h]
   refine callH (cloneRules_ok o.rs (by omega)) [.l 25] ?_
   simp +decide -implicitDefEqProofs only [S0, simprocAttr, k1, h, tdE, tk1, Option.getD_some]
  ·simp +decide -implicitDefEqProofs only [S0, simprocAttr, h, k1, tdE, Option.getD_some]
 by_cases k2 : o.kind = 2
 ·simp +decide -implicitDefEqProofs only [S0, simprocAttr, k2]
  obtain ⟨c, e⟩ : ∃ c, (doPut s o).2 = tdE c := ⟨_, doPut_td s o⟩
  refine callH (srvPut_ok hs o) [.e 0, .e 1] ?_
  rw [e]
  simp +decide -implicitDefEqProofs only [S0, simprocAttr, k2, e, tdE, Option.getD_some]
 by_cases k3 : o.kind = 3
 ·simp +decide -implicitDefEqProofs only [S0, simprocAttr, k3]
  obtain ⟨c, e⟩ : ∃ c, (doCut s o).2 = tdE c := ⟨_, doCut_td s o⟩
  refine callH (srvCut_ok hs o) [.e 0, .e 1] ?_
  rw [e]
  simp +decide -implicitDefEqProofs only [S0, simprocAttr, k3, e, tdE, Option.getD_some]
 by_cases k7 : o.kind = 7
 ·simp +decide -implicitDefEqProofs only [S0, simprocAttr, k7]
  refine callH (srvNeed_ok hs o) [.e 0, .e 1] ?_
  obtain ⟨e1, e2⟩ := doNeed_ids s o
  simp +decide -implicitDefEqProofs only [S0, simprocAttr, k7, e1, e2, Option.getD_some]
 by_cases k8 : o.kind = 8
 ·unfold doAudit
  simp +decide -implicitDefEqProofs only [S0, simprocAttr, k8]
  by_cases h2 : sErr s o.who = 0
  ·have h' := h2
   unfold sErr at h'
   obtain ⟨g1, g2, g3⟩ := seesE_zero.1 h'
   refine call_eq (Sees_ok' g1 g2 g3) ?_
   by_cases h3 : sSees s o.who = 255
   ·have h3' : seesF (fitsW s.up o.who) s.rs = 255 := h3
    simp +decide -implicitDefEqProofs only [S0, simprocAttr, h3']
    refine callH (cloneNts_ok s.notes (by omega)) [.e 1, .l 80] ?_
    simp +decide -implicitDefEqProofs only [S0, simprocAttr, k8, h2, h3, tk1, Option.getD_some]
   ·have h3' : ¬ ((seesF (fitsW s.up o.who) s.rs : Nat) : Int) = 255 := fun e => h3 (by unfold sSees; omega)
    simp +decide -implicitDefEqProofs only [S0, simprocAttr, h3', h3, h2, k8, tdE, Option.getD_some]
  ·have h2' := h2
   unfold sErr at h2'
   refine call_eq (Sees_bad h2') ?_
   simp +decide -implicitDefEqProofs only [S0, simprocAttr, h2, h2', sErr, k8, tdE, Option.getD_some]
 by_cases k : o.kind = 4 ∨ o.kind = 5 ∨ o.kind = 6
 ·have hp := chkSt_part (a := sSees s o.who) hs.2.2.1
  unfold doAsk
  rcases k with k | k | k
  ·simp +decide -implicitDefEqProofs only [S0, simprocAttr, k]
   refine callH (srvPart_ok hs o.who) [.e 0, .e 1] ?_
   by_cases h2 : sErr s o.who = 0
   ·simp +decide -implicitDefEqProofs only [S0, simprocAttr, h2, k]
    refine call_eq (srvOne_ok hp o.id) ?_
    obtain ⟨e1, e2⟩ := oneG_ids (l := partL (sSees s o.who) s.l) (id := o.id)
    simp +decide -implicitDefEqProofs only [S0, simprocAttr, h2, k, e1, e2, Option.getD_some]
   ·simp +decide -implicitDefEqProofs only [S0, simprocAttr, h2, k, tdE, Option.getD_some]
  ·simp +decide -implicitDefEqProofs only [S0, simprocAttr, k]
   refine callH (srvPart_ok hs o.who) [.e 0, .e 1] ?_
   by_cases h2 : sErr s o.who = 0
   ·simp +decide -implicitDefEqProofs only [S0, simprocAttr, h2, k]
    refine call_eq (By_okS hp o.fd) ?_
    by_cases h3 : byOk o.fd = true
    ·simp +decide -implicitDefEqProofs only [S0, simprocAttr, h2, h3, k, tdE, Option.getD_some]
    ·simp +decide -implicitDefEqProofs only [S0, simprocAttr, h2, h3, k, tdE, Option.getD_some]; try rfl
   ·simp +decide -implicitDefEqProofs only [S0, simprocAttr, h2, k, tdE, Option.getD_some]
  ·simp +decide -implicitDefEqProofs only [S0, simprocAttr, k]
   refine callH (srvPart_ok hs o.who) [.e 0, .e 1] ?_
   by_cases h2 : sErr s o.who = 0
   ·simp +decide -implicitDefEqProofs only [S0, simprocAttr, h2, k]
    refine call_eq (Hist_okV hp o.id) ?_
    by_cases h3 : (histL o.id (partL (sSees s o.who) s.l)).length = 0
    ·have h4 := List.eq_nil_of_length_eq_zero h3
     simp +decide -implicitDefEqProofs only [S0, simprocAttr, h2, h3, h4, k, tdE, Option.getD_some]; try rfl
    ·simp +decide -implicitDefEqProofs only [S0, simprocAttr, h2, h3, k, tdE, Option.getD_some]
   ·simp +decide -implicitDefEqProofs only [S0, simprocAttr, h2, k, tdE, Option.getD_some]
 ·have k4 : ¬ o.kind = 4 := fun e => k (.inl e)
  have k5 : ¬ o.kind = 5 := fun e => k (.inr (.inl e))
  have k6 : ¬ o.kind = 6 := fun e => k (.inr (.inr e))
  simp +decide -implicitDefEqProofs only [S0, simprocAttr, k1, k2, k3, k4, k5, k6, k7, k8, tdE, Option.getD_some]
end Go.Proofs.YtonolfpnidaflaaGreatDoor.E
