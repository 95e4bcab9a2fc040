/- Plain law: a server, as a step. No conditions. -/
import Derived.Test.YtpdenloeacaadaaGSo
import Derived.Test.YtpdenloeacaadaaGLa
import Derived.Test.YtpdenloeacaadaaOpS
namespace Go.Proofs.Ytpdenloeacaadaa.E
open Go
set_option linter.unusedSimpArgs false
set_option linter.unusedVariables false
set_option linter.unusedSectionVars false
set_option maxRecDepth 20000
structure Nt where
 who : Wh
 id : ByteArray
structure Sv where
 up : List Int
 rs : List Rl
 l : List Vn
 notes : List Nt
structure Td where
 code : Int
 vs : List Vn
 ids : List ByteArray
 nts : List Nt
def tdE (e : Int) : Td := ⟨e, [], [], []⟩
/-- What is so of a server all along. -/
def svOk (s : Sv) : Prop := chkUp s.up = 0 ∧ chkRs s.rs = 0 ∧ chkSt s.l = 0 ∧ s.notes.length ≤ 60
def sSees (s : Sv) (w : Wh) : Nat := seesF (fitsW s.up w) s.rs
def sErr (s : Sv) (w : Wh) : Int := seesE s.up s.rs w
/-- May who asks see, or write, these kinds? -/
def sMay (s : Sv) (w : Wh) (c : Int) : Int := if sErr s w = 0 then (if 0 ≤ c ∧ c < 256 then (if bnot c (sSees s w) = 0 then 0 else 6) else 1) else sErr s w
def oneG (l : List Vn) (id : ByteArray) : Td := match getN l id with
 | some r => ⟨0, [⟨r, false⟩], [], []⟩
 | none => tdE 4
def doPut (s : Sv) (o : OpS) : Sv × Td :=
 if chkRec o.rcd = 0 then (if sMay s o.who o.rcd.cats = 0 then (if putE s.l o.rcd = 0 then ({ s with l := s.l ++ [⟨o.rcd, false⟩] }, tdE 0) else (s, tdE (putE s.l o.rcd))) else (s, tdE (sMay s o.who o.rcd.cats))) else (s, tdE (chkRec o.rcd))
def doCut (s : Sv) (o : OpS) : Sv × Td :=
 if sMay s o.who o.rcd.cats = 0 then (if cutE s.l o.id o.rcd.cats = 0 then ({ s with l := s.l ++ [⟨⟨o.id, o.rcd.cats, [], []⟩, true⟩] }, tdE 0) else (s, tdE (cutE s.l o.id o.rcd.cats))) else (s, tdE (sMay s o.who o.rcd.cats))
def doNeed (s : Sv) (o : OpS) : Sv × Td :=
 if sErr s o.who = 0 then (if s.notes.length = 60 then (s, tdE 2) else (if (oneG s.l o.id).code = 0 then ({ s with notes := s.notes ++ [⟨o.who, o.id⟩] }, oneG s.l o.id) else (s, oneG s.l o.id))) else (s, tdE (sErr s o.who))
def doAsk (s : Sv) (o : OpS) : Td :=
 if sErr s o.who = 0 then
  (if o.kind = 4 then oneG (partL (sSees s o.who) s.l) o.id
   else if o.kind = 6 then (if (histL o.id (partL (sSees s o.who) s.l)).length = 0 then tdE 4 else ⟨0, histL o.id (partL (sSees s o.who) s.l), [], []⟩)
   else (if byOk o.fd then ⟨0, [], byL (partL (sSees s o.who) s.l) o.fd, []⟩ else tdE 3))
 else tdE (sErr s o.who)
def doAudit (s : Sv) (o : OpS) : Td := if sErr s o.who = 0 then (if sSees s o.who = 255 then ⟨0, [], [], s.notes⟩ else tdE 6) else tdE (sErr s o.who)
def doS (s : Sv) (o : OpS) : Sv × Td :=
 if o.kind = 1 then (if chkRs o.rs = 0 then ({ s with rs := o.rs }, tdE 0) else (s, tdE (chkRs o.rs)))
 else if o.kind = 2 then doPut s o
 else if o.kind = 3 then doCut s o
 else if o.kind = 7 then doNeed s o
 else if o.kind = 8 then (s, doAudit s o)
 else if o.kind = 4 ∨ o.kind = 5 ∨ o.kind = 6 then (s, doAsk s o)
 else (s, tdE 3)
theorem chkGo_cnt : ∀ (m p : List Vn), (∀ c, cnt p c ≤ 20) → chkGo p m = 0 → ∀ c, cnt (p ++ m) c ≤ 20 := by
 intro m
 induction m with
 | nil => intro p hp _ c; rw [List.append_nil]; exact hp c
 | cons v m ih =>
  intro p hp h c
  simp only [chkGo] at h
  split at h
  ·rename_i h0
   have h1 : cnt p v.r.cats + 1 ≤ 20 := by
    unfold stepE at h0
    split at h0
    ·split at h0
     ·cases h0
     ·omega
    ·rename_i h1; exact absurd h0 h1
   have := ih (p ++ [v]) (fun c => by
    rw [cnt_add]
    split
    ·rename_i e; rw [← e]; omega
    ·exact hp c) h c
   rwa [List.append_assoc] at this
  ·rename_i h0; exact absurd h h0
theorem chkSt_cnt {l : List Vn} (h : chkSt l = 0) (c : Int) : cnt l c ≤ 20 := by
 have hl := (chkSt_len h).1
 unfold chkSt at h
 rw [if_neg (by omega)] at h
 exact chkGo_cnt l [] (fun c => by simp [cnt]) h c
theorem sum_add (f g : Nat → Nat) (n : Nat) : ((List.range n).map fun c => f c + g c).sum = ((List.range n).map f).sum + ((List.range n).map g).sum := by
 induction n with
 | zero => rfl
 | succ n ih => rw [List.range_succ, List.map_append, List.map_append, List.map_append, List.sum_append, List.sum_append, List.sum_append, ih]; simp; omega
theorem sum_one (k n : Nat) (h : k < n) : ((List.range n).map fun c => if k = c then 1 else 0).sum = 1 := by
 induction n with
 | zero => omega
 | succ n ih =>
  rw [List.range_succ, List.map_append, List.sum_append]
  by_cases e : k = n
  ·subst e
   have z : ∀ m, m ≤ k → ((List.range m).map fun c => if k = c then 1 else 0).sum = 0 := by
    intro m
    induction m with
    | zero => intro _; rfl
    | succ m ih2 => intro hm; rw [List.range_succ, List.map_append, List.sum_append, ih2 (by omega)]; simp; omega
   rw [z k (Nat.le_refl _)]; simp
  ·rw [ih (by omega)]; simp [e]
theorem cnt_sum (l : List Vn) (h : ∀ v ∈ l, 0 ≤ v.r.cats ∧ v.r.cats < 256) : ((List.range 256).map fun c => cnt l (c : Nat)).sum = l.length := by
 induction l using snoc_ind with
 | h0 => decide
 | h1 l v ih =>
  have hv := h v (by simp)
  have e : (fun c : Nat => cnt (l ++ [v]) (c : Int)) = fun c : Nat => cnt l (c : Int) + if v.r.cats.toNat = c then 1 else 0 := by
   funext c
   rw [cnt_add]
   congr 1
   have : v.r.cats = (c : Int) ↔ v.r.cats.toNat = c := by omega
   simp only [this]
  rw [e, sum_add, ih fun x hx => h x (by simp [hx]), sum_one _ _ (by omega), List.length_append, List.length_singleton]
theorem sum_le (f : Nat → Nat) (k : Nat) (n : Nat) (hf : ∀ c, f c ≤ 20) (hk : k < n) (hfk : f k < 20) : ((List.range n).map f).sum < 20 * n := by
 have all : ∀ m, ((List.range m).map f).sum ≤ 20 * m := by
  intro m
  induction m with
  | zero => simp
  | succ m ih => rw [List.range_succ, List.map_append, List.sum_append]; have := hf m; simp; omega
 induction n with
 | zero => omega
 | succ n ih =>
  rw [List.range_succ, List.map_append, List.sum_append]
  have := hf n
  by_cases e : k = n
  ·subst e; have := all k; simp; omega
  ·have := ih (by omega); simp; omega
theorem st_room {l : List Vn} (h : chkSt l = 0) {c : Int} (hc : 0 ≤ c ∧ c < 256) (hn : cnt l c ≠ 20) : l.length < 5120 := by
 have h1 := chkSt_cnt h c
 have := sum_le (fun k => cnt l (k : Nat)) c.toNat 256 (fun k => chkSt_cnt h k) (by omega) (by
  have : ((c.toNat : Nat) : Int) = c := by omega
  simp only [this]; omega)
 rw [cnt_sum l (fun v hv => mem_cats h hv)] at this
 omega
theorem put_st {l : List Vn} {r : Rc} (h : chkSt l = 0) (hp : putE l r = 0) : chkSt (l ++ [⟨r, false⟩]) = 0 := by
 have hr := (putE_inv hp).2
 have hc := (chkRec_iff.1 hr).2.1
 have hn : cnt l r.cats ≠ 20 := by
  intro e
  rw [putE, if_pos h, if_pos hr, if_pos e] at hp
  cases hp
 have h20 := chkSt_cnt h r.cats
 rw [chkSt_add h (st_room h hc hn)]
 exact stepE_put hr (by omega)
theorem cut_st {l : List Vn} {id : ByteArray} {c : Int} (h : chkSt l = 0) (hp : cutE l id c = 0) : chkSt (l ++ [⟨⟨id, c, [], []⟩, true⟩]) = 0 := by
 unfold cutE at hp
 rw [if_pos h] at hp
 split at hp
 ·rename_i h1
  split at hp
  ·rename_i hc
   split at hp
   ·rename_i hl
    split at hp
    ·cases hp
    ·rename_i hn
     have h20 := chkSt_cnt h c
     rw [chkSt_add h (st_room h hc hn)]
     exact stepE_cut h1 hc hl (by omega)
   ·cases hp
  ·cases hp
 ·cases hp
theorem doS_ok {s : Sv} {o : OpS} (h : svOk s) : svOk (doS s o).1 := by
 obtain ⟨h1, h2, h3, h4⟩ := h
 unfold doS doPut doCut doNeed
 repeat' split
 all_goals first
  | exact ⟨h1, h2, h3, h4⟩
  | (refine ⟨h1, ?_, h3, h4⟩; assumption)
  | (refine ⟨h1, h2, ?_, h4⟩; rename_i hp; exact put_st h3 hp)
  | (refine ⟨h1, h2, ?_, h4⟩; rename_i hp; exact cut_st h3 hp)
  | (refine ⟨h1, h2, h3, ?_⟩; simp only [List.length_append, List.length_singleton]; omega)
end Go.Proofs.Ytpdenloeacaadaa.E
