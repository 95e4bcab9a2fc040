/- The abstract machine of this claim, part U: code, functions. No conditions. -/
import Derived.Test.YtanbgeelphfggaaDoorEngZ
namespace Go.Proofs.YtanbgeelphfggaaDoor.E
open Go
set_option linter.unusedSimpArgs false
set_option linter.unusedVariables false
set_option linter.unusedSectionVars false
set_option maxRecDepth 20000

/-! ### Code -/
inductive Ex where
  | normal
  | exit (id : Nat)
  | ret
def ACond (x : AV) (X Y : Prop) : Prop :=
  match x with
  | .val (.bool t) => (t = true → X) ∧ (t = false → Y)
  | _ => False
def Ex.then (X : ASt → Prop) (K : Ex → ASt → Prop) : Ex → ASt → Prop
  | .normal, s => X s
  | e, s => K e s
def Ex.inB (id : Nat) (K : Ex → ASt → Prop) : Ex → ASt → Prop
  | .exit i, s => if i = id then K .normal s else K (.exit i) s
  | e, s => K e s
/-- A loop that ends within so many rounds. -/
def ALoopN (W : (Ex → ASt → Prop) → ASt → Prop) (K : Ex → ASt → Prop) : Nat → ASt → Prop
  | 0, _ => False
  | n + 1, st => W (Ex.then (ALoopN W K n) K) st
/-- A loop: what holds at the head of each round, and what becomes less. -/
def ALoop (W : (Ex → ASt → Prop) → ASt → Prop) (K : Ex → ASt → Prop) (st : ASt) : Prop :=
  (∃ (I : Nat → ASt → Prop), (∃ n s, Less st s ∧ I n s) ∧ ∀ n s, I n s → W (Ex.then (fun s' => ∃ m s2, Less s' s2 ∧ I m s2 ∧ m < n) K) s) ∨ ∃ n s, Less st s ∧ ALoopN W K n s
theorem ALoop.unroll {W : (Ex → ASt → Prop) → ASt → Prop} {K : Ex → ASt → Prop} {st : ASt} (n : Nat) (h : ALoopN W K n st) : ALoop W K st := .inr ⟨n, st, Less.refl _, h⟩
/-- Only these temporaries are looked at from now on. -/
def keep (l : List Nat) (tm : List (Nat × AV)) : List (Nat × AV) := l.map fun i => (i, tget tm i)
theorem tget_keep (l : List Nat) (tm : List (Nat × AV)) (i : Nat) : tget (keep l tm) i = if i ∈ l then tget tm i else .dead := by
  induction l with
  | nil => simp [keep, tget]
  | cons x l ih =>
    simp only [keep, List.map_cons, tget] at ih ⊢
    by_cases e : x = i
    · subst e; simp
    · have : ¬ i = x := fun h => e h.symm
      simp only [e, if_false, ih, List.mem_cons, this, false_or]
theorem Less.keep (l : List Nat) (tm : List (Nat × AV)) (hp : Hp) (n : Nat) : Less ⟨tm, hp, n⟩ ⟨E.keep l tm, hp, n⟩ := Less.of_tm (s := ⟨E.keep l tm, hp, n⟩) (st := ⟨tm, hp, n⟩) rfl rfl fun i => by
  simp only [tget_keep]
  split
  · exact .inr rfl
  · exact .inl rfl
theorem ALoop.unrollK {W : (Ex → ASt → Prop) → ASt → Prop} {K : Ex → ASt → Prop} {tm : List (Nat × AV)} {hp : Hp} {m : Nat} (l : List Nat) (n : Nat) (h : ALoopN W K n ⟨keep l tm, hp, m⟩) : ALoop W K ⟨tm, hp, m⟩ := .inr ⟨n, _, Less.keep l tm hp m, h⟩
theorem ALoop.inv {W : (Ex → ASt → Prop) → ASt → Prop} {K : Ex → ASt → Prop} {st : ASt} (I : Nat → ASt → Prop) (n : Nat) (s : ASt) (hl : Less st s) (h0 : I n s)
    (hr : ∀ n s, I n s → W (Ex.then (fun s' => ∃ m s2, Less s' s2 ∧ I m s2 ∧ m < n) K) s) : ALoop W K st := .inl ⟨I, ⟨n, s, hl, h0⟩, hr⟩
def ARegion (P : Program) (ops : Array Oper) (draw : Bool) (K : ASt → Prop) (st : ASt) : Prop :=
  match draw with
  | false => AOps P (ops.toList.map (·.dst)) ops.toList K st
  | true => ADr P (ops.toList.map (·.dst)) (afts ops.toList) ops.toList 0 [] [] K st
/-- What a code's open regions are asked once and for all. -/
def dOk : Code → Bool
  | .region _ ops draw => !draw || statB ops
  | .seq a b => dOk a && dOk b
  | .cond _ a b => dOk a && dOk b
  | .block _ a => dOk a
  | .loop a => dOk a
  | _ => true
def AWp (P : Program) : Code → (Ex → ASt → Prop) → ASt → Prop
  | .skip, K, st => K .normal st
  | .region _ ops draw, K, st => ARegion P ops draw (K .normal) st
  | .seq a b, K, st => AWp P a (Ex.then (AWp P b K) K) st
  | .cond x a b, K, st => ACond (ev st.tm x) (AWp P a K st) (AWp P b K st)
  | .block id a, K, st => AWp P a (Ex.inB id K) st
  | .loop a, K, st => ALoop (AWp P a) K st
  | .exit id, K, st => K (.exit id) st
  | .ret, K, st => K .ret st
  | _, _, _ => False
def toExit : Ex → Exit
  | .normal => .normal
  | .exit id => .exit id
  | .ret => .ret

theorem AWp_sound {P : Program} (hm : P.follows .mixedOrders = true) : ∀ (code : Code) {K : Ex → ASt → Prop} {st : ASt} {w : World} {c : Cx} {a : Act} {Q : Exit → Act → World → Prop}, dOk code = true → AWp P code K st → Sim w c st a →
    (∀ e st' w' c' a', K e st' → ExtW w c w' c' → Sim w' c' st' a' → Q (toExit e) a' w') → code.wp P Q a w
  | .skip, K, st, w, c, a, Q, _, h, hs, hQ => wp_skip (hQ .normal st w c a h (ExtW.refl _ _) hs)
  | .region id ops draw, K, st, w, c, a, Q, hd, h, hs, hQ => by
    simp only [AWp, ARegion] at h
    cases draw with
    | false => exact wp_region_list (AOps_sound ops.toList h hs fun st' w' c' a' k e s => hQ .normal st' w' c' a' k e.toW s)
    | true => exact region_any hm (by simpa [dOk] using hd) h hs fun st' w' c' a' k e s => hQ .normal st' w' c' a' k e.toW s
  | .seq x y, K, st, w, c, a, Q, hd, h, hs, hQ => by
    simp only [AWp] at h
    simp only [dOk, Bool.and_eq_true] at hd
    refine wp_seq (AWp_sound hm x hd.1 h hs fun e st' w' c' a' k he s => ?_)
    cases e with
    | normal => exact AWp_sound hm y hd.2 k s fun e2 st2 w2 c2 a2 k2 he2 s2 => hQ e2 st2 w2 c2 a2 k2 (he.trans he2) s2
    | exit id => exact hQ (.exit id) st' w' c' a' k he s
    | ret => exact hQ .ret st' w' c' a' k he s
  | .cond x y z, K, st, w, c, a, Q, hd, h, hs, hQ => by
    simp only [AWp] at h
    simp only [dOk, Bool.and_eq_true] at hd
    have hx := hs.ev x
    unfold ACond at h
    split at h
    · rename_i t e
      rw [e] at hx
      simp only [RelV] at hx
      cases t with
      | true => exact wp_cond_true hx.1 (AWp_sound hm y hd.1 (h.1 rfl) hs hQ)
      | false => exact wp_cond_false hx.1 (AWp_sound hm z hd.2 (h.2 rfl) hs hQ)
    · exact h.elim
  | .block id x, K, st, w, c, a, Q, hd, h, hs, hQ => by
    simp only [AWp] at h
    simp only [dOk] at hd
    refine wp_block (AWp_sound hm x hd h hs fun e st' w' c' a' k he s => ?_)
    cases e with
    | normal => exact hQ .normal st' w' c' a' k he s
    | exit i =>
      simp only [Ex.inB] at k
      simp only [toExit, Exit.inBlock]
      split at k
      · rename_i hid; rw [if_pos hid]; exact hQ .normal st' w' c' a' k he s
      · rename_i hid; rw [if_neg hid]; exact hQ (.exit i) st' w' c' a' k he s
    | ret => exact hQ .ret st' w' c' a' k he s
  | .loop x, K, st, w, c, a, Q, hd, h, hs, hQ => by
    simp only [AWp] at h
    simp only [dOk] at hd
    rcases h with ⟨I, ⟨n0, s0, hl, h0⟩, hr⟩ | ⟨n0, s0, hl, h⟩
    · obtain ⟨c0, e0, hs0⟩ := hl hs
      refine wp_loop_ghost (fun n a' w' => ∃ c' s, ExtW w c w' c' ∧ Sim w' c' s a' ∧ I n s) n0 ⟨c0, s0, e0, hs0, h0⟩ ?_
      rintro n a' w' ⟨c', s, he, hsim, hI⟩
      refine AWp_sound hm x hd (hr n s hI) hsim fun e st2 w2 c2 a2 k he2 s2 => ?_
      cases e with
      | normal =>
        obtain ⟨m, s3, hl3, hI3, hlt⟩ := k
        obtain ⟨c3, e3, hs3⟩ := hl3 s2
        exact ⟨m, hlt, c3, s3, (he.trans he2).trans e3, hs3, hI3⟩
      | exit id => exact hQ (.exit id) st2 w2 c2 a2 k (he.trans he2) s2
      | ret => exact hQ .ret st2 w2 c2 a2 k (he.trans he2) s2
    · obtain ⟨c0, e0, hs0⟩ := hl hs
      refine wp_loop_ghost (fun n a' w' => ∃ c' s, ExtW w c w' c' ∧ Sim w' c' s a' ∧ ALoopN (AWp P x) K n s) n0 ⟨c0, s0, e0, hs0, h⟩ ?_
      rintro n a' w' ⟨c', s, he, hsim, hI⟩
      cases n with
      | zero => exact hI.elim
      | succ n =>
        refine AWp_sound hm x hd hI hsim fun e st2 w2 c2 a2 k he2 s2 => ?_
        cases e with
        | normal => exact ⟨n, Nat.lt_succ_self n, c2, st2, he.trans he2, s2, k⟩
        | exit id => exact hQ (.exit id) st2 w2 c2 a2 k (he.trans he2) s2
        | ret => exact hQ .ret st2 w2 c2 a2 k (he.trans he2) s2
  | .exit id, K, st, w, c, a, Q, _, h, hs, hQ => wp_exit (hQ (.exit id) st w c a h (ExtW.refl _ _) hs)
  | .ret, K, st, w, c, a, Q, _, h, hs, hQ => wp_ret (hQ .ret st w c a h (ExtW.refl _ _) hs)
  | .rangeFunc _ _ _ _, _, _, _, _, _, _, _, h, _, _ => by simp only [AWp] at h
  | .scope _, _, _, _, _, _, _, _, h, _, _ => by simp only [AWp] at h
  | .label _, _, _, _, _, _, _, _, h, _, _ => by simp only [AWp] at h
  | .goto _, _, _, _, _, _, _, _, h, _, _ => by simp only [AWp] at h
  | .refuse _, _, _, _, _, _, _, _, h, _, _ => by simp only [AWp] at h

/-! ### Functions -/
def ARes (P : Program) (st : ASt) : List ResultVar → (List AV → Prop) → Prop
  | [], K => K []
  | .tmp t :: r, K => ARes P st r fun l => K (tget st.tm t :: l)
  | .cell a t :: r, K => ALoad P t (tget st.tm a) st.hp fun v => ARes P st r fun l => K (v :: l)
def ARet (l : List AV) (r : AV) : Prop :=
  match l with
  | [x] => SubA x r
  | l => match r with
    | .tup rs => SubL l rs
    | _ => False
def AFin (P : Program) (rs : List ResultVar) (r : AV) (st : ASt) : Prop :=
  ARes P st rs fun l => match passL st.hp l with
    | some (l', _) => ARet l' r
    | none => False
def AEnd (P : Program) (rs : List ResultVar) (r : AV) : Ex → ASt → Prop
  | .exit _, _ => False
  | _, st => AFin P rs r st
def initT : Nat → List AV → List (Nat × AV)
  | _, [] => []
  | i, x :: xs => (i, x) :: initT (i + 1) xs

theorem run_results {P : Program} {st : ASt} {w : World} {c : Cx} {a : Act} (hs : Sim w c st a) : ∀ (l : List ResultVar) {K : List AV → Prop}, ARes P st l K →
    ∃ vs xs, (l.mapM fun (x : ResultVar) => (match x with | .tmp t => pure (a.tmps.getD t undef) | .cell q t => do loadVar t (← asAddr (a.tmps.getD q undef)) : Sem Value)).run P w = .ok vs w ∧ RelL w c xs vs ∧ K xs := by
  intro l
  induction l with
  | nil => intro K h; exact ⟨[], [], by simp, by simp [RelL], h⟩
  | cons x l ih =>
    intro K h
    cases x with
    | tmp t =>
      simp only [ARes] at h
      obtain ⟨vs, xs, e, h1, h2⟩ := ih h
      refine ⟨a.tmps.getD t undef :: vs, _, ?_, ?_, h2⟩
      · rw [List.mapM_cons]
        simp only [Sem.run_bind, Sem.run_pure, Result.andThen_ok]
        rw [e]
        rfl
      · simp only [RelL]
        exact ⟨_, _, rfl, hs.tm t, h1⟩
    | cell q t =>
      simp only [ARes] at h
      obtain ⟨r, x, e, h1, h2⟩ := ALoad_sound h hs.inv (hs.tm q)
      obtain ⟨vs, xs, e2, h3, h4⟩ := ih h2
      refine ⟨r :: vs, _, ?_, ?_, h4⟩
      · have e3 : (do loadVar t (← asAddr (a.tmps.getD q undef)) : Sem Value).run P w = .ok r w := by
          generalize a.tmps.getD q undef = v at e
          cases v with
          | pointer p => cases p with
            | some p => exact e
            | none => simp [Instr.loadAt, Instr.sureAddr] at e
          | _ => simp [Instr.loadAt, Instr.sureAddr] at e
        rw [List.mapM_cons]
        simp only [Sem.run_bind] at e3 ⊢
        rw [e3]
        simp only [Result.andThen_ok]
        rw [e2]
        rfl
      · simp only [RelL]
        exact ⟨_, _, rfl, h1, h3⟩

theorem results_run {P : Program} {st : ASt} {w : World} {c : Cx} {a : Act} (hs : Sim w c st a) {fn : Func} {rs : List ResultVar} (hrs : fn.results = rs.toArray) {K : List AV → Prop} (k : ARes P st rs K) :
    ∃ us xs, (results fn a.tmps).run P w = .ok (if h : us.toArray.size = 1 then us.toArray[0] else .tuple us.toArray) w ∧ RelL w c xs us ∧ K xs := by
  obtain ⟨us, xs, e1, h1, h2⟩ := run_results hs _ k
  refine ⟨us, xs, ?_, h1, h2⟩
  have hm : (fn.results.mapM fun (x : ResultVar) => (match x with | .tmp t => pure (a.tmps.getD t undef) | .cell q t => do loadVar t (← asAddr (a.tmps.getD q undef)) : Sem Value)).run P w = .ok us.toArray w := by
    rw [hrs, List.mapM_toArray]
    simp only [Sem.run_map, e1, Result.andThen_ok]
  unfold results
  simp only [Sem.run_bind]
  erw [hm]
  simp only [Result.andThen_ok, Sem.run_pure]
theorem ARet.sound {w : World} {S : Nat → Prop} {l : List AV} {r : AV} (h : ARet l r) {vs : List Value} (hv : RVL w S l vs) : ∃ v, (if h : vs.toArray.size = 1 then vs.toArray[0] else .tuple vs.toArray) = v ∧ RV w S r v := by
  have hlen := hv.length
  refine ⟨_, rfl, ?_⟩
  unfold ARet at h
  split at h
  · rename_i x
    simp only [RVL] at hv
    obtain ⟨u, us, rfl, h1, rfl⟩ := hv
    exact h.sound h1
  · rename_i hne
    split at h
    · rename_i rs
      rw [dif_neg (by
        intro he
        simp only [List.size_toArray] at he
        rw [hlen] at he
        obtain ⟨x, hx⟩ := List.length_eq_one_iff.1 he
        exact hne x hx)]
      simp only [RV]
      exact ⟨vs, rfl, h.sound hv⟩
    · exact h.elim

theorem tget_initT (args : List AV) (k i : Nat) : tget (initT k args) i = if k ≤ i then (args[i - k]?).getD .dead else .dead := by
  induction args generalizing k with
  | nil => simp [initT, tget]
  | cons x xs ih =>
    simp only [initT, tget, ih]
    by_cases e : k = i
    · subst e; simp
    · simp only [e, if_false]
      by_cases h : k ≤ i
      · rw [if_pos (by omega), if_pos h, show i - k = (i - (k + 1)) + 1 by omega, List.getElem?_cons_succ]
      · rw [if_neg (by omega), if_neg h]

theorem Ok.of_wp {P : Program} {f : FuncId} {fn : Func} {code : Code} {rs : List ResultVar} {n : Nat} {args : List AV} {r : AV} (hf : P.funcs[f]? = some fn) (hb : fn.body = some code) (hrs : fn.results = rs.toArray) (hnt : fn.ntmps = n)
    (hn : args.length ≤ n) (hm : P.follows .mixedOrders = true) (hd : dOk code = true) (h : AWp P code (AEnd P rs r) ⟨initT 0 args, [], n⟩) : Ok P f args r := by
  subst hnt
  intro w S vs hS hv
  let c : Cx := { cur := fun _ => 0, loc := fun _ => none, lv := fun _ => false, far := fun b => b < w.heap.size ∧ ¬ S b }
  have hlv : ∀ b, ¬ c.live b := by rintro b ⟨s, cp, l, _⟩; exact absurd l (by simp [c])
  have hst : ∀ b, S b → still w c b := fun b hb => ⟨hS b hb, hlv b, fun hf => hf.2 hb⟩
  have hlen := hv.length
  have hinv : Inv w c [] := ⟨fun _ => rfl, fun s => by simp only [Hp.get, BlkOk, c], fun s s' b cp cp' l => absurd l (by simp [c]), fun b hl => absurd hl (hlv b), fun b hl => absurd hl (hlv b), fun b hf => hf.1⟩
  have hrel : RelL w c args vs := RelL.of_RVL _ _ (RVL.mono (fun b hb => ⟨hst b hb, rfl⟩) _ _ hv)
  have hsim : Sim w c ⟨initT 0 args, [], fn.ntmps⟩ { tmps := vs.toArray ++ Array.replicate (fn.ntmps - vs.toArray.size) undef, defers := [] } := by
    refine ⟨by simp; omega, fun i => ?_, hinv, rfl⟩
    rw [tget_initT]
    simp only [Nat.zero_le, if_true, Nat.sub_zero]
    cases hi : args[i]? with
    | none => simp only [Option.getD_none, RelV]
    | some x =>
      simp only [Option.getD_some]
      obtain ⟨u, hu, hr⟩ := hrel.get i x hi
      have hlt := lt_of_get hu
      have e : (vs.toArray ++ Array.replicate (fn.ntmps - vs.toArray.size) undef).getD i undef = u := by
        obtain ⟨h1, h2⟩ := List.getElem?_eq_some_iff.1 hu
        simp [Array.getElem?_append, hlt, h2]
      rw [e]
      exact hr
  refine calls_of_wp hf hb (AWp_sound hm code hd h hsim fun e st w' c' a' k he s => ?_)
  have fin : AFin P rs r st → a'.defers = [] ∧ ∃ v, (results fn a'.tmps).run P w' = .ok v w' ∧ ∃ v', Ending.returned v = .returned v' ∧ Go.RowKit.Below w.heap.size w w' ∧ RV w' (grownS S w w') r v' := by
    intro k
    refine ⟨s.df, ?_⟩
    unfold AFin at k
    obtain ⟨us, xs, e1, h1, h2⟩ := run_results s _ k
    split at h2
    · rename_i l' hp' hpass
      obtain ⟨c2, g1, g2, g3⟩ := passL_sound s.inv h1 hpass
      obtain ⟨v, e2, h3⟩ := h2.sound g3
      refine ⟨v, ?_, v, rfl, ⟨he.os, he.tape, he.output, he.size, fun b hb => (he.block b hb (hlv b)).1⟩, RV.mono (fun b hb => ⟨?_, rfl⟩) _ _ h3⟩
      · have hm : (fn.results.mapM fun (x : ResultVar) => (match x with | .tmp t => pure (a'.tmps.getD t undef) | .cell q t => do loadVar t (← asAddr (a'.tmps.getD q undef)) : Sem Value)).run P w' = .ok us.toArray w' := by
          rw [hrs, List.mapM_toArray]
          simp only [Sem.run_map, e1, Result.andThen_ok]
        unfold results
        simp only [Sem.run_bind]
        erw [hm]
        simp only [Result.andThen_ok, Sem.run_pure]
        rw [e2]
      · rcases Nat.lt_or_ge b w.heap.size with hlt | hge
        · refine .inl (Classical.byContradiction fun hn => ?_)
          have hfar := hb.2.2
          rw [g1.far, he.far] at hfar
          exact hfar ⟨hlt, hn⟩
        · exact .inr ⟨hge, hb.1⟩
    · exact h2.elim
  cases e with
  | normal => exact fin k
  | ret => exact fin k
  | exit id => exact k.elim
end Go.Proofs.YtanbgeelphfggaaDoor.E
