/- The abstract machine of this claim, part T: regions whose order is open. No conditions. -/
import Derived.Test.YtanbgeelphfggaaDoorEngL
namespace Go.Proofs.YtanbgeelphfggaaDoor.E
open Go
set_option linter.unusedSimpArgs false
set_option linter.unusedVariables false
set_option linter.unusedSectionVars false
set_option maxRecDepth 20000

/-! ### The text's order, and what may not be turned about -/
def dis (a b : List (Bool × Nat)) : Bool := a.all fun x => !b.contains x
def aftL : List Edge → List Nat
  | [] => []
  | e :: r => if Region.binds .any e = true then e.on :: aftL r else aftL r
def afts (l : List Oper) : List (List Nat) := l.map fun o => aftL o.after.toList
/-- Operation i comes ahead of operation j, whatever the order. -/
def ordB (a : List (List Nat)) : Nat → Nat → Nat → Bool
  | 0, _, _ => false
  | n + 1, i, j => match a[j]? with
    | some l => l.contains i || l.any fun m => ordB a n i m
    | none => false
abbrev Keys := List (Bool × Nat)
def chkQ (a : List (List Nat)) (j : Nat) (D : Keys) : List (Nat × Keys × Keys) → Prop
  | [] => True
  | x :: r => (dis x.2.2 D = true ∨ ordB a a.length x.1 j = true) ∧ chkQ a j D r
def chkW (a : List (List Nat)) (j : Nat) (W : Keys) : List (Nat × Keys) → Prop
  | [] => True
  | x :: r => (dis W x.2 = true ∨ ordB a a.length x.1 j = true) ∧ chkW a j W r
def chkV (a : List (List Nat)) (j : Nat) (D W : Keys) : List (Nat × Keys × Keys) → Prop
  | [] => True
  | x :: r => ((dis x.2.2 D = true ∧ dis W x.2.1 = true) ∨ ordB a a.length x.1 j = true) ∧ chkV a j D W r
/-- An operation's marks against those ahead of it: what follows. -/
def ADk (a : List (List Nat)) (j : Nat) (D : Keys) (rd : List (Nat × Keys)) (wr : List (Nat × Keys × Keys)) (X : List (Nat × Keys) → List (Nat × Keys × Keys) → Prop) : Keys → Prop
  | [] => chkQ a j D wr ∧ X ((j, D) :: rd) wr
  | w :: W => (chkW a j (w :: W) rd ∧ chkV a j D (w :: W) wr) ∧ X rd ((j, D, w :: W) :: wr)
def ADr (P : Program) (gd : List (Option Nat)) (a : List (List Nat)) : List Oper → Nat → List (Nat × Keys) → List (Nat × Keys × Keys) → (ASt → Prop) → ASt → Prop
  | [], _, _, _, K, st => K st
  | o :: rest, j, rd, wr, K, st =>
    let go := fun st : ASt => opDet P (ev st.tm) o st.hp ∧ ADk a j (opIn (ev st.tm) o (siteOf o) st.hp) rd wr (fun rd' wr' => AStep P o (ADr P gd a rest (j + 1) rd' wr' K) st) (opOut (ev st.tm) o (siteOf o) st.hp)
    match o.guard with
    | none => go st
    | some (g, b) => match dstAt gd g with
      | some t => AGuard (tget st.tm t) t b st go fun st' => ADr P gd a rest (j + 1) rd wr K (st'.put o.dst (.val (.tuple #[])))
      | none => False

/-! ### Effects -/
structure Eff where
  v : AV
  up : List (Site × Nat × Blk)
  D : Keys
  W : Keys
def ASt.eff (st : ASt) (d : Option Nat) (e : Eff) : ASt := { st with hp := app e.up st.hp }.put d e.v
theorem put_n (st : ASt) (d : Option Nat) (v : AV) : (st.put d v).n = st.n := by
  cases d with
  | none => rfl
  | some d => simp only [ASt.put]; split <;> rfl
theorem put_hp (st : ASt) (d : Option Nat) (v : AV) : (st.put d v).hp = st.hp := by
  cases d with
  | none => rfl
  | some d => simp only [ASt.put]; split <;> rfl
theorem put_tm (st : ASt) (d : Option Nat) (v : AV) (t : Nat) : tget (st.put d v).tm t = if d = some t ∧ t < st.n then v else tget st.tm t := by
  cases d with
  | none => simp [ASt.put]
  | some d =>
    simp only [ASt.put]
    split
    · rename_i h
      rw [tget_tset]
      by_cases e : d = t
      · subst e; simp [h]
      · simp [e]
    · rename_i h
      by_cases e : d = t
      · subst e; simp [h]
      · simp [e]
theorem eff_n (st : ASt) (d : Option Nat) (e : Eff) : (st.eff d e).n = st.n := put_n _ _ _
theorem eff_hp (st : ASt) (d : Option Nat) (e : Eff) : (st.eff d e).hp = app e.up st.hp := put_hp _ _ _
theorem eff_tm (st : ASt) (d : Option Nat) (e : Eff) (t : Nat) : tget (st.eff d e).tm t = if d = some t ∧ t < st.n then e.v else tget st.tm t := put_tm _ _ _ _
/-- The same state, told in another way. -/
structure Eqv (st st' : ASt) : Prop where
  n : st'.n = st.n
  tm : ∀ t, tget st'.tm t = tget st.tm t
  hp : ∀ s, st'.hp.get s = st.hp.get s
theorem Eqv.refl (st : ASt) : Eqv st st := ⟨rfl, fun _ => rfl, fun _ => rfl⟩
theorem Eqv.symm {a b : ASt} (h : Eqv a b) : Eqv b a := ⟨h.n.symm, fun t => (h.tm t).symm, fun s => (h.hp s).symm⟩
theorem Eqv.trans {a b c : ASt} (h : Eqv a b) (k : Eqv b c) : Eqv a c := ⟨k.n.trans h.n, fun t => (k.tm t).trans (h.tm t), fun s => (k.hp s).trans (h.hp s)⟩
theorem Inv.eqv {w : World} {c : Cx} {hp hp' : Hp} (h : Inv w c hp) (he : ∀ s, hp'.get s = hp.get s) : Inv w c hp' :=
  ⟨fun s => by rw [he]; exact h.cur s, fun s => by rw [he]; exact h.ok s, h.inj, h.far, h.lt, h.farlt⟩
theorem Sim.eqv {w : World} {c : Cx} {st st' : ASt} {a : Act} (h : Sim w c st a) (he : Eqv st st') : Sim w c st' a :=
  ⟨h.size.trans he.n.symm, fun i => by rw [he.tm]; exact h.tm i, h.inv.eqv he.hp, h.df⟩

abbrev Ent := Nat × Option Nat × Eff
/-- The effects of those of S, in the text's order. -/
def runS (S : Nat → Bool) : List Ent → ASt → ASt
  | [], st => st
  | (j, d, e) :: r, st => runS S r (if S j = true then st.eff d e else st)
theorem runS_n (S : Nat → Bool) (l : List Ent) (st : ASt) : (runS S l st).n = st.n := by
  induction l generalizing st with
  | nil => rfl
  | cons x r ih =>
    obtain ⟨j, d, e⟩ := x
    simp only [runS, ih]
    split
    · exact eff_n _ _ _
    · rfl
theorem runS_tm {S S' : Nat → Bool} {t : Nat} : ∀ (l : List Ent) {st st' : ASt}, (∀ x ∈ l, x.2.1 = some t → S x.1 = S' x.1) → st'.n = st.n → tget st'.tm t = tget st.tm t → tget (runS S' l st').tm t = tget (runS S l st).tm t
  | [], _, _, _, _, h => h
  | (j, d, e) :: r, st, st', hS, hn, h => by
    simp only [runS]
    refine runS_tm r (fun x hx => hS x (.tail _ hx)) ?_ ?_
    · split <;> split <;> simp [eff_n, hn]
    · by_cases hd : d = some t
      · rw [← hS _ (.head _) hd]
        split
        · rw [eff_tm, eff_tm, hn, h]
        · exact h
      · have e1 : ∀ st : ASt, tget (st.eff d e).tm t = tget st.tm t := fun st => by rw [eff_tm, if_neg (fun q => hd q.1)]
        split <;> split <;> simp only [e1, h]
theorem runS_hp {S S' : Nat → Bool} {s : Site} : ∀ (l : List Ent) {st st' : ASt}, (∀ x ∈ l, (∃ q ∈ x.2.2.up, q.1 = s) → S x.1 = S' x.1) → st'.hp.get s = st.hp.get s → (runS S' l st').hp.get s = (runS S l st).hp.get s
  | [], _, _, _, h => h
  | (j, d, e) :: r, st, st', hS, h => by
    simp only [runS]
    refine runS_hp r (fun x hx => hS x (.tail _ hx)) ?_
    by_cases hd : ∃ q ∈ e.up, q.1 = s
    · rw [← hS _ (.head _) hd]
      split
      · rw [eff_hp, eff_hp, app_get, app_get, h]
      · exact h
    · have e1 : ∀ st : ASt, (st.eff d e).hp.get s = st.hp.get s := fun st => by
        rw [eff_hp]
        exact app_other fun q hq he => hd ⟨q, hq, he⟩
      split <;> split <;> simp only [e1, h]
theorem runS_append (S : Nat → Bool) (a b : List Ent) (st : ASt) : runS S (a ++ b) st = runS S b (runS S a st) := by
  induction a generalizing st with
  | nil => rfl
  | cons x r ih => obtain ⟨j, d, e⟩ := x; simp only [List.cons_append, runS, ih]
theorem app_has {up : List (Site × Nat × Blk)} {s : Site} (h : ∃ q ∈ up, q.1 = s) (hp hp' : Hp) : (app up hp).get s = (app up hp').get s := by
  rw [app_get, app_get]
  cases e : up.reverse.find? fun x => x.1 = s with
  | some y => rfl
  | none =>
    obtain ⟨q, hq, he⟩ := h
    have := List.find?_eq_none.1 e q (by simpa using hq)
    simp [he] at this
/-- One more, at its place in the text, or behind all. -/
theorem runS_last {S : Nat → Bool} {l1 l2 : List Ent} {i : Nat} {d : Option Nat} {e : Eff} {st : ASt} (hi : S i = false) (h1 : ∀ x ∈ l1 ++ l2, x.1 ≠ i)
    (ht : ∀ x ∈ l2, S x.1 = true → ∀ t, d = some t → x.2.1 ≠ some t) (hw : ∀ x ∈ l2, S x.1 = true → ∀ q ∈ x.2.2.up, ∀ q' ∈ e.up, q.1 ≠ q'.1) :
    Eqv ((runS S (l1 ++ (i, d, e) :: l2) st).eff d e) (runS (fun j => S j || j == i) (l1 ++ (i, d, e) :: l2) st) := by
  have hne1 : ∀ x ∈ l1, (S x.1 || x.1 == i) = S x.1 := fun x hx => by have := h1 x (List.mem_append_left _ hx); simp [this]
  have hne2 : ∀ x ∈ l2, (S x.1 || x.1 == i) = S x.1 := fun x hx => by have := h1 x (List.mem_append_right _ hx); simp [this]
  simp only [runS_append, runS, hi, Bool.false_eq_true, if_false, Bool.false_or, beq_self_eq_true, if_true]
  refine ⟨by simp only [runS_n, eff_n], fun t => ?_, fun s => ?_⟩
  · rw [eff_tm, runS_n, runS_n]
    by_cases hd : d = some t ∧ t < st.n
    · rw [if_pos hd]
      have e0 : tget (runS (fun _ => false) l2 ((runS (fun j => S j || j == i) l1 st).eff d e)).tm t = tget (runS (fun j => S j || j == i) l2 ((runS (fun j => S j || j == i) l1 st).eff d e)).tm t :=
        runS_tm l2 (fun x hx hxt => by
          rw [hne2 x hx]
          cases hs : S x.1 with
          | false => rfl
          | true => exact absurd hxt (ht x hx hs t hd.1)) rfl rfl
      rw [← e0]
      have e3 : ∀ (l : List Ent) (st : ASt), runS (fun _ => false) l st = st := by
        intro l
        induction l with
        | nil => intro _; rfl
        | cons x r ih => intro st; obtain ⟨j, d, e⟩ := x; simp only [runS, Bool.false_eq_true, if_false, ih]
      rw [e3, eff_tm, runS_n, if_pos hd]
    · rw [if_neg hd]
      refine runS_tm l2 (fun x hx _ => (hne2 x hx).symm) (by simp only [eff_n, runS_n]) ?_
      rw [eff_tm, runS_n, if_neg hd]
      exact runS_tm l1 (fun x hx _ => (hne1 x hx).symm) rfl rfl
  · rw [eff_hp]
    by_cases hd : ∃ q ∈ e.up, q.1 = s
    · have e0 : (runS (fun _ => false) l2 ((runS (fun j => S j || j == i) l1 st).eff d e)).hp.get s = (runS (fun j => S j || j == i) l2 ((runS (fun j => S j || j == i) l1 st).eff d e)).hp.get s :=
        runS_hp l2 (fun x hx hxt => by
          rw [hne2 x hx]
          cases hs : S x.1 with
          | false => rfl
          | true =>
            obtain ⟨q, hq, hqs⟩ := hxt
            obtain ⟨q', hq', hqs'⟩ := hd
            exact absurd (hqs.trans hqs'.symm) (hw x hx hs q hq q' hq')) rfl
      rw [← e0]
      have e3 : ∀ (l : List Ent) (st : ASt), runS (fun _ => false) l st = st := by
        intro l
        induction l with
        | nil => intro _; rfl
        | cons x r ih => intro st; obtain ⟨j, d, e⟩ := x; simp only [runS, Bool.false_eq_true, if_false, ih]
      rw [e3, eff_hp]
      exact app_has hd _ _
    · rw [app_other fun q hq he => hd ⟨q, hq, he⟩]
      refine runS_hp l2 (fun x hx _ => (hne2 x hx).symm) ?_
      rw [eff_hp, app_other fun q hq he => hd ⟨q, hq, he⟩]
      exact runS_hp l1 (fun x hx _ => (hne1 x hx).symm) rfl
end Go.Proofs.YtanbgeelphfggaaDoor.E
