/- The abstract machine of this claim, part L: regions. No conditions. -/
import Derived.Test.YtanbgeelphfggaaDoorEngS
import Derived.Tactics
import Derived.Deep.LoopGhost
namespace Go.Proofs.YtanbgeelphfggaaDoor.E
open Go
set_option linter.unusedSimpArgs false
set_option linter.unusedVariables false
set_option linter.unusedSectionVars false
set_option maxRecDepth 20000

/-! ### States -/
def tget : List (Nat × AV) → Nat → AV
  | [], _ => .dead
  | (k, x) :: r, i => if k = i then x else tget r i
def tset : List (Nat × AV) → Nat → AV → List (Nat × AV)
  | [], i, v => [(i, v)]
  | (k, x) :: r, i, v => if k = i then (i, v) :: r else (k, x) :: tset r i v
theorem tget_tset (l : List (Nat × AV)) (i j : Nat) (v : AV) : tget (tset l i v) j = if i = j then v else tget l j := by
  induction l with
  | nil => simp [tset, tget]
  | cons x r ih =>
    obtain ⟨k, y⟩ := x
    simp only [tset]
    by_cases e : k = i
    · subst e
      simp only [if_true, tget]
      by_cases e2 : k = j <;> simp [e2]
    · simp only [e, if_false, tget, ih]
      by_cases e2 : k = j
      · subst e2
        have : ¬ i = k := fun x => e x.symm
        simp [this]
      · simp [e2]
structure ASt where
  tm : List (Nat × AV)
  hp : Hp
  n : Nat
def evC : Value → AV
  | .agg cs => if cs.all (fun v => plain v && v.oneCell') then .agg (cs.toList.map .val) else .dead
  | v => if plain v then .val v else .dead
def ev (tm : List (Nat × AV)) : Operand → AV
  | .tmp t => tget tm t
  | .const v => evC v
  | .func f => .func f []
  | .global _ => .dead
def ASt.put (st : ASt) (d : Option Nat) (v : AV) : ASt :=
  match d with
  | some d => if d < st.n then { st with tm := tset st.tm d v } else st
  | none => st

structure Sim (w : World) (c : Cx) (st : ASt) (a : Act) : Prop where
  size : a.tmps.size = st.n
  tm : ∀ i, RelV w c (tget st.tm i) (a.tmps.getD i undef)
  inv : Inv w c st.hp
  df : a.defers = []

theorem relV_evC {w : World} {c : Cx} (v : Value) : RelV w c (evC v) v := by
  unfold evC
  split
  · rename_i cs
    split
    · rename_i h
      simp only [RelV]
      refine ⟨cs.toList, by simp, ?_, ?_⟩
      · intro u hu
        have := Array.all_eq_true'.1 h u (Array.mem_toList_iff.1 hu)
        simp only [Bool.and_eq_true] at this
        exact this.2
      · rw [← Array.all_toList] at h
        generalize cs.toList = l at h
        induction l with
        | nil => simp [RelL]
        | cons x l ih =>
          simp only [List.all_cons, Bool.and_eq_true] at h
          simp only [List.map_cons, RelL]
          exact ⟨x, l, rfl, by simp only [RelV]; exact ⟨trivial, h.1.1⟩, ih h.2⟩
    · simp only [RelV]
  · split
    · rename_i h
      simp only [RelV]
      exact ⟨trivial, h⟩
    · simp only [RelV]
theorem Sim.ev {w : World} {c : Cx} {st : ASt} {a : Act} (h : Sim w c st a) (x : Operand) : RelV w c (E.ev st.tm x) (a.eval x) := by
  cases x with
  | tmp t => exact h.tm t
  | const v => exact relV_evC v
  | func f => simp only [E.ev, Act.eval, RelV]; exact ⟨[], rfl, by simp [RelL]⟩
  | global g => simp only [E.ev, RelV]
theorem Sim.step {w w' : World} {c c' : Cx} {st : ASt} {a : Act} (h : Sim w c st a) (he : Ext w c w' c') {hp' : Hp} (hi : Inv w' c' hp') (d : Option Nat) {x : AV} {v : Value} (hx : RelV w' c' x v) : Sim w' c' ({ st with hp := hp' }.put d x) (a.put d v) := by
  have h0 : Sim w' c' { st with hp := hp' } a := ⟨h.size, fun i => RelV.ext he _ _ (h.tm i), hi, h.df⟩
  cases d with
  | none => exact h0
  | some d =>
    simp only [ASt.put]
    split
    · rename_i hd
      refine ⟨by simp [Act.put, h.size], fun i => ?_, hi, h.df⟩
      simp only [Act.put]
      rw [tget_tset]
      by_cases e : d = i
      · subst e
        rw [if_pos rfl]
        simpa [h.size, hd] using hx
      · rw [if_neg e]
        have := h0.tm i
        simpa [Array.getElem?_setIfInBounds_ne e] using this
    · rename_i hd
      have : a.put (some d) v = a := by
        simp only [Act.put]
        rw [Array.setIfInBounds_eq_of_size_le (by rw [h.size]; omega)]
      rw [this]
      exact h0

/-! ### Regions whose order is the text's -/
def siteOf (o : Oper) : Site := match o.dst with | some d => .l d | none => .l 1000000
def dstAt : List (Option Nat) → Nat → Option Nat
  | [], _ => none
  | d :: _, 0 => d
  | _ :: r, n + 1 => dstAt r n
def AGuard (x : AV) (t : Nat) (b : Bool) (st : ASt) (X Y : ASt → Prop) : Prop :=
  match x with
  | .val (.bool q) => (q = b → X (st.put (some t) (.val (.bool b)))) ∧ (q = !b → Y (st.put (some t) (.val (.bool (!b)))))
  | .val (.tuple _) => Y st
  | _ => False
def AStep (P : Program) (o : Oper) (K : ASt → Prop) (st : ASt) : Prop :=
  ADo P (ev st.tm) o (siteOf o) st.hp fun v hp' => K ({ st with hp := hp' }.put o.dst v)
def AOps (P : Program) (gd : List (Option Nat)) : List Oper → (ASt → Prop) → ASt → Prop
  | [], K, st => K st
  | o :: rest, K, st => match o.guard with
    | none => AStep P o (AOps P gd rest K) st
    | some (j, b) => match dstAt gd j with
      | some t => AGuard (tget st.tm t) t b st (AStep P o (AOps P gd rest K)) fun st' => AOps P gd rest K (st'.put o.dst (.val (.tuple #[])))
      | none => False

theorem Sim.same {w : World} {c : Cx} {st : ASt} {a : Act} (h : Sim w c st a) (t : Nat) {x : AV} (hx : RelV w c x (a.tmps.getD t undef)) : Sim w c (st.put (some t) x) a := by
  simp only [ASt.put]
  split
  · refine ⟨h.size, fun i => ?_, h.inv, h.df⟩
    simp only
    rw [tget_tset]
    by_cases e : t = i
    · subst e; rw [if_pos rfl]; exact hx
    · rw [if_neg e]; exact h.tm i
  · exact h
theorem dstAt_eq (ops : List Oper) (j : Nat) : dstAt (ops.map (·.dst)) j = (ops[j]?).bind (·.dst) := by
  induction ops generalizing j with
  | nil => simp [dstAt]
  | cons o ops ih => cases j with
    | zero => simp [dstAt]
    | succ j => simp [dstAt, ih]
theorem AStep_sound {P : Program} {o : Oper} {K : ASt → Prop} {st : ASt} (h : AStep P o K st) {w : World} {c : Cx} {a : Act} (hs : Sim w c st a) (Q : Exit → Act → World → Prop) :
    o.wp P a w (fun a' w' => ∃ c' st', Ext w c w' c' ∧ Sim w' c' st' a' ∧ K st') Q := by
  refine Oper.wp_mono ?_ (ADo_sound h hs.inv hs.ev Q)
  rintro a' w' ⟨v, c', av, hp', rfl, h1, h2, h3, h4⟩
  exact ⟨c', _, h1, hs.step h1 h2 o.dst h3, h4⟩
theorem AOps_sound {P : Program} {ops : Array Oper} {Q : Exit → Act → World → Prop} {K : ASt → Prop} (l : List Oper) :
    ∀ {st : ASt} {w : World} {c : Cx} {a : Act}, AOps P (ops.toList.map (·.dst)) l K st → Sim w c st a → (∀ st' w' c' a', K st' → Ext w c w' c' → Sim w' c' st' a' → Q .normal a' w') → wpList P ops Q l a w := by
  induction l with
  | nil => intro st w c a h hs hQ; exact hQ st w c a h (Ext.refl _ _) hs
  | cons o rest ih =>
    intro st w c a h hs hQ
    simp only [AOps] at h
    unfold wpList
    have run : ∀ {st : ASt}, AStep P o (AOps P (ops.toList.map (·.dst)) rest K) st → Sim w c st a → Oper.wp P o a w (wpList P ops Q rest) Q := by
      intro st h hs
      refine Oper.wp_mono ?_ (AStep_sound h hs Q)
      rintro a' w' ⟨c', st', h1, h2, h3⟩
      exact ih h3 h2 fun st2 w2 c2 a2 k e s => hQ st2 w2 c2 a2 k (h1.trans e) s
    split at h
    · rename_i hg
      rw [if_pos (by simp [Region.wanted, hg])]
      exact .inl (run h hs)
    · rename_i j b hg
      split at h
      · rename_i t ht
        have hd : (ops[j]?).bind (·.dst) = some t := by
          rw [dstAt_eq] at ht
          simpa using ht
        have hy : yielded ops a.tmps j = match a.tmps.getD t undef with | .bool q => some q | _ => none := by
          unfold yielded
          simp only [hd, Option.bind_some]
          have e : a.tmps.getD t undef = (a.tmps[t]?).getD undef := by simp
          rw [e]
          cases hq : a.tmps[t]? with
          | none => rfl
          | some v => cases v <;> rfl
        have ht2 := hs.tm t
        unfold AGuard at h
        split at h
        · rename_i q e
          rw [e] at ht2
          simp only [RelV] at ht2
          rw [ht2.1] at hy
          simp only at hy
          by_cases hqb : q = b
          · subst hqb
            rw [if_pos (by simp [Region.wanted, hg, hy])]
            exact .inl (run (h.1 rfl) (hs.same t (by simp only [RelV]; exact ht2)))
          · rw [if_neg (by simp [Region.wanted, hg, hy, hqb])]
            have hq2 : q = !b := by cases q <;> cases b <;> simp_all
            subst hq2
            have h2 := (hs.same t (x := .val (.bool (!b))) (by simp only [RelV]; exact ht2))
            exact ih (h.2 rfl) (h2.step (Ext.refl _ _) h2.inv o.dst (x := .val (.tuple #[])) (v := undef) (by simp only [RelV]; exact ⟨rfl, rfl⟩)) hQ
        · rename_i vs e
          rw [e] at ht2
          simp only [RelV] at ht2
          rw [ht2.1] at hy
          simp only at hy
          rw [if_neg (by simp [Region.wanted, hg, hy])]
          exact ih h (hs.step (Ext.refl _ _) hs.inv o.dst (x := .val (.tuple #[])) (v := undef) (by simp only [RelV]; exact ⟨rfl, rfl⟩)) hQ
        · exact h.elim
      · exact h.elim

end Go.Proofs.YtanbgeelphfggaaDoor.E
