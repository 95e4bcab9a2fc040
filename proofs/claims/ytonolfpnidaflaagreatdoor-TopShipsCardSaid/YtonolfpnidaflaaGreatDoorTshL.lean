/- Plain law: what is done is written, and shipped. No conditions. -/
import Derived.Test.YtonolfpnidaflaaGreatDoorSlgL
import Derived.Test.YtonolfpnidaflaaGreatDoorShipM
import Derived.Test.YtonolfpnidaflaaGreatDoorOps
namespace Go.Proofs.YtonolfpnidaflaaGreatDoor.E
open Go
set_option linter.unusedSimpArgs false
set_option linter.unusedVariables false
set_option linter.unusedSectionVars false
set_option maxRecDepth 20000
def rlsB : List Rl := [⟨0, -1, 0, 40, 1, true⟩, ⟨1, -1, 0, 40, 3, true⟩, ⟨2, -1, 0, 40, 255, true⟩]
def svT : Sv := ⟨[0, 1, 2], rlsB, [], []⟩
def opB : OpS := { noOp with kind := 1, rs := rlsB }
theorem svT_ok : svOk svT := ⟨by decide +kernel, by decide +kernel, by decide +kernel, by decide⟩
theorem svT_do : doS ⟨[0, 1, 2], [], [], []⟩ opB = (svT, tdE 0) := by
 have h : chkRs rlsB = 0 := by decide +kernel
 have h1 : opB.kind = 1 := rfl
 have h2 : opB.rs = rlsB := rfl
 rw [doS, if_pos h1, h2, if_pos h]
 rfl
theorem rlsB_ok : chkRs rlsB = 0 := by decide +kernel
theorem svT_l : svT.l = [] := rfl
/-- What is asked, as a server is asked. -/
def opS' (o : OpR) : OpS := ⟨o.kind, ⟨o.role, o.why, o.time⟩, opRules o, ⟨o.id, o.cats, [⟨⟨#[107]⟩, o.fv⟩], []⟩, o.id, ⟨⟨#[107]⟩, ⟨#[120]⟩⟩⟩
theorem opS'_C (l : List OpR) : (l.map opS').map opC' = l.map opC := by rw [List.map_map]; rfl
structure tOk (o : OpS) : Prop where
 who : whoOk o.who = true
 id : idOk o.id = true
 k : 1 ≤ o.kind ∧ o.kind ≤ 6
theorem opsT {l : List (List Int)} {o : OpS} (h : o ∈ (opsL l).map opS') : tOk o := by
 obtain ⟨x, hx, rfl⟩ := List.mem_map.1 h
 obtain ⟨c, _, hc⟩ := List.mem_flatMap.1 hx
 by_cases hs : c.length < 3
 ·rw [op1_short hs] at hc; cases hc
 ·obtain ⟨a, b, d, c, rfl⟩ := long_of hs
  simp only [op1, List.mem_singleton] at hc
  subst hc
  have h1 := (wN_eq a (show 0 < 3 by omega)).2
  have h2 := (wN_eq b (show 0 < 2 by omega)).2
  have h3 := (wN_eq d (show 0 < 30 by omega)).2
  have h4 := (wN_eq d (show 0 < 3 by omega)).2
  have h5 := (wN_eq (IntKind.i64.wrap (a.tdiv 3)) (show 0 < 8 by omega)).2
  refine ⟨?_, ?_, ?_⟩
  ·unfold whoOk opS'
   rw [decide_eq_true_eq]
   simp only
   omega
  ·have hn : ∀ n : Fin 3, idOk (nmS n.1) = true := by decide +kernel
   exact hn ⟨_, h4⟩
  ·have hk : ∀ n : Fin 8, 1 ≤ ((kndN n.1 : Nat) : Int) ∧ ((kndN n.1 : Nat) : Int) ≤ 6 := by decide
   exact hk ⟨_, h5⟩
theorem opsT_len (l : List (List Int)) : ((opsL l).map opS').length ≤ 25 := by
 rw [List.length_map]
 unfold opsL
 have : ∀ m : List (List Int), (m.flatMap op1).length ≤ m.length := by
  intro m
  induction m with
  | nil => simp
  | cons c m ih =>
   rw [List.flatMap_cons, List.length_append, List.length_cons]
   have := op1_len c
   omega
 have := this (l.take 25)
 rw [List.length_take] at this
 omega
theorem line_small {o : OpS} (h : chkOp o = 0) (hk : o.kind ≠ 1) : (lineL o).length ≤ 400 := by
 have h0 : (plainL o).length ≤ 300 := by
  rcases chkOp_cases h with ⟨h1, h2⟩ | ⟨h1, h2, h3⟩ | ⟨h1, h2, h3, h4⟩
  ·exact absurd h1 hk
  ·have h5 := numsL_len (who_nums (whoOk_I h2))
   have h6 := wrL_len h3
   rw [plainL, if_pos h1]
   simp only [List.length_append, List.length_cons, List.length_nil] at h5 ⊢
   omega
  ·have h5 := numsL_len (who_nums (whoOk_I h2))
   have h6 := id_size h4
   rw [size_eq] at h6
   have h7 := numsL_len (l := [o.rcd.cats]) fun n hn => by simp at hn; subst hn; exact ⟨by omega, by omega⟩
   rw [plainL, if_neg (by omega), if_pos h1]
   simp only [List.length_append, List.length_cons, List.length_nil] at h5 h7 ⊢
   omega
 have h2 := Lib.itoa_length_le _ (sumI (plainL o)).1 (sumI (plainL o)).2
 simp only [lineL, List.length_append, List.length_cons, List.length_nil]
 omega
def lnB (o : OpS) : ByteArray := bs (lineL o)
structure tshI (W : List OpS) (g : Gr) : Prop where
 ok : okRun svT (W.map plainO)
 chk : ∀ o ∈ W, chkOp o = 0
 len : (logL W).length ≤ 400 * W.length
 inv : gInv g
 n : g.n = 3
 log : g.log = W.map lnB
theorem tsh_begin : tshI [] (gFull 2 []) := ⟨trivial, by simp, by simp [logL], gNew_inv (by omega), rfl, rfl⟩
theorem tsh_add {W : List OpS} {g : Gr} {o : OpS} (h : tshI W g) (hw : W.length < 25) (h1 : o.kind ≠ 1) (hc : chkOp o = 0) (h0 : (doS (runL svT (W.map plainO)) o).2.code = 0) (hk : o.kind = 1 ∨ o.kind = 2 ∨ o.kind = 3) :
  tshI (W ++ [o]) (gAdd g (lnB o)) ∧ runL svT ((W ++ [o]).map plainO) = (doS (runL svT (W.map plainO)) o).1 := by
 have e : runL svT ((W ++ [o]).map plainO) = (doS (runL svT (W.map plainO)) o).1 := by
  rw [List.map_append, List.map_singleton, runL_add, doS_plain _ _ hk]
 refine ⟨⟨?_, ?_, ?_, ?_, h.n, ?_⟩, e⟩
 ·rw [List.map_append, List.map_singleton]
  exact (okRun_snoc _ _ _).2 ⟨h.ok, by rw [doS_plain _ _ hk]; exact h0⟩
 ·intro x hx
  rcases List.mem_append.1 hx with hx | hx
  ·exact h.chk x hx
  ·rw [List.mem_singleton] at hx; subst hx; exact hc
 ·have := line_small hc h1
  have e : (logL (W ++ [o])).length = (logL W).length + (lineL o).length := by rw [logL_app]; simp [logL]
  have := h.len
  rw [e, List.length_append, List.length_singleton]
  omega
 ·exact gAdd_inv h.inv (by rw [h.log, List.length_map]; omega) _
 ·show g.log ++ [lnB o] = _
  rw [h.log, List.map_append, List.map_singleton]
/-- What somebody has is what the leader's first lines are. -/
theorem tsh_has {W : List OpS} {g : Gr} (h : tshI W g) {i : Nat} (hi : i < 3) : ∃ m, m ≤ W.length ∧ gLog g i = (W.take m).map lnB := by
 have hn := h.inv.ok.2.2.1
 have hn2 := h.n
 match i with
 | 0 => exact ⟨W.length, Nat.le_refl _, by rw [List.take_of_length_le (Nat.le_refl _)]; exact h.log⟩
 | j + 1 =>
  have hp := h.inv.pre j (by omega)
  rw [h.log] at hp
  refine ⟨(gHas g j).length, by simpa using hp.length_le, ?_⟩
  show gHas g j = _
  rw [List.prefix_iff_eq_take.1 hp, List.length_take, List.length_map, ← List.map_take]
  congr 2
  have := hp.length_le
  rw [List.length_map] at this
  omega
theorem joinS (l : List OpS) : Lib.join (l.map fun o => lineL o) [] = logL l := by
 show List.intercalate [] _ = _
 rw [logL, List.flatMap_def]
 induction l with
 | nil => rfl
 | cons o l ih =>
  cases l with
  | nil => simp [List.intercalate]
  | cons p l =>
   rw [List.map_cons] at ih
   rw [List.map_cons, List.map_cons]
   rw [List.intercalate_cons_cons, ih]
   simp
theorem tsh_take {W : List OpS} {g : Gr} (h : tshI W g) (m : Nat) : (∀ o ∈ W.take m, chkOp o = 0) ∧ (logL (W.take m)).length ≤ 400 * W.length ∧ okRun svT ((W.take m).map plainO) := by
 refine ⟨fun o ho => h.chk o (List.mem_of_mem_take ho), ?_, ?_⟩
 ·have e : logL W = logL (W.take m) ++ logL (W.drop m) := by rw [← logL_app, List.take_append_drop]
  have := congrArg List.length e
  rw [List.length_append] at this
  have := h.len
  omega
 ·have key : ∀ (l : List OpS) (s : Sv) (m : Nat), okRun s l → okRun s (l.take m) := by
   intro l
   induction l with
   | nil => intro s m _; rw [List.take_nil]; trivial
   | cons x l ih =>
    intro s m h
    cases m with
    | zero => trivial
    | succ m => exact ⟨h.1, ih _ m h.2⟩
  rw [List.map_take]
  exact key _ _ _ h.ok
theorem tsh_put {W : List OpS} {g : Gr} (h : tshI W g) {j : Nat} (hj : j < 2) (m c : Nat) (hm : m ≤ (gHas g j).length) : tshI W (gTake g j m ((g.log.drop m).take c)) := by
 have hn := h.inv.ok.2.2.1
 have hn2 := h.n
 have hp := (h.inv.pre j (by omega)).length_le
 obtain ⟨k1, k2, k3, k4, k5⟩ := take_inv h.inv (w := ⟨j, m, (g.log.drop m).take c⟩) ⟨by simp only; omega, by simp only; omega, List.take_prefix _ _⟩
 exact ⟨h.ok, h.chk, h.len, k1, by rw [k5]; exact hn2, by rw [k3]; exact h.log⟩
end Go.Proofs.YtonolfpnidaflaaGreatDoor.E
