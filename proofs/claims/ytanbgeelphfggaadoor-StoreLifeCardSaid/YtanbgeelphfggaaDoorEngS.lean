/- The abstract machine of this claim, part S: an operation's reach. No conditions. -/
import Derived.Test.YtanbgeelphfggaaDoorEngR
namespace Go.Proofs.YtanbgeelphfggaaDoor.E
open Go
set_option linter.unusedSimpArgs false
set_option linter.unusedVariables false
set_option linter.unusedSectionVars false
set_option maxRecDepth 20000

theorem app_get (up : List (Site × Nat × Blk)) (hp : Hp) (s : Site) : (app up hp).get s = match (up.reverse.find? fun x => x.1 = s) with | some x => x.2 | none => hp.get s := by
  induction up generalizing hp with
  | nil => rfl
  | cons x up ih =>
    show (app up (hp.set x.1 x.2.1 x.2.2)).get s = _
    rw [ih]
    simp only [List.reverse_cons, List.find?_append]
    cases h : up.reverse.find? fun x => x.1 = s with
    | some y => simp
    | none =>
      simp only [Option.none_or, Hp.get_set, List.find?_singleton]
      by_cases e : x.1 = s <;> simp [e]
theorem app_same {l : List Site} {hp hp' : Hp} (h : SameAt l hp hp') (up : List (Site × Nat × Blk)) : SameAt l (app up hp) (app up hp') := by
  intro s hs
  rw [app_get, app_get, h s hs]
theorem app_append (a b : List (Site × Nat × Blk)) (hp : Hp) : app (a ++ b) hp = app b (app a hp) := by simp [app]
theorem app_other {up : List (Site × Nat × Blk)} {hp : Hp} {s : Site} (h : ∀ x ∈ up, x.1 ≠ s) : (app up hp).get s = hp.get s := by
  rw [app_get]
  cases e : up.reverse.find? fun x => x.1 = s with
  | none => rfl
  | some y =>
    have h1 := List.find?_some e
    have h2 := List.mem_of_find?_eq_some e
    simp only [List.mem_reverse] at h2
    exact absurd (of_decide_eq_true h1) (h y h2)

/-! ### What is handed over -/
theorem pass1_loc {hp hp' : Hp} {x y : AV} (h : pass1 hp x = some (y, hp')) : ∃ up, (∀ q ∈ up, q.1 ∈ sts x) ∧ hp' = app up hp ∧ ∀ hp2, SameAt (sts x) hp hp2 → pass1 hp2 x = some (y, app up hp2) := by
  unfold pass1 at h
  split at h
  · rename_i s ver k off len
    have hs : s ∈ sts (.own s ver k off len) := by simp [sts]
    split at h
    · rename_i n t k2 q rows e
      split at h
      · rename_i hc
        cases h
        refine ⟨[(s, n, _)], by simp [sts], rfl, fun hp2 h2 => ?_⟩
        simp only [pass1, h2 s hs, e]
        rw [if_pos hc]
        rfl
      · cases h
    · rename_i n k2 rows e
      split at h
      · rename_i hc
        cases h
        refine ⟨[], by simp, rfl, fun hp2 h2 => ?_⟩
        simp only [pass1, h2 s hs, e]
        rw [if_pos hc]
        rfl
      · cases h
    · cases h
  · rename_i s ver off
    have hs : s ∈ sts (.ptr s ver off) := by simp [sts]
    split at h
    · rename_i n t cs e
      split at h
      · rename_i hc
        cases h
        refine ⟨[(s, n, _)], by simp [sts], rfl, fun hp2 h2 => ?_⟩
        simp only [pass1, h2 s hs, e]
        rw [if_pos hc]
        rfl
      · cases h
    · rename_i n t cs e
      split at h
      · rename_i hc
        cases h
        refine ⟨[], by simp, rfl, fun hp2 h2 => ?_⟩
        simp only [pass1, h2 s hs, e]
        rw [if_pos hc]
        rfl
      · cases h
    · cases h
  all_goals first
    | (cases h; exact ⟨[], by simp, rfl, fun _ _ => rfl⟩)
    | cases h
theorem passC_loc {hp' : Hp} : ∀ {xs ys : List AV} {hp : Hp}, passC hp xs = some (ys, hp') → ∃ up, (∀ q ∈ up, q.1 ∈ stsL xs) ∧ hp' = app up hp ∧ ∀ hp2, SameAt (stsL xs) hp hp2 → passC hp2 xs = some (ys, app up hp2)
  | [], ys, hp, h => by
    simp only [passC, Option.some.injEq, Prod.mk.injEq] at h
    obtain ⟨rfl, rfl⟩ := h
    exact ⟨[], by simp, rfl, fun _ _ => rfl⟩
  | x :: xs, ys, hp, h => by
    simp only [passC] at h
    split at h
    · rename_i y hp1 e1
      split at h
      · rename_i ys' hp2 e2
        cases h
        obtain ⟨u1, a1, rfl, c1⟩ := pass1_loc e1
        obtain ⟨u2, a2, rfl, c2⟩ := passC_loc e2
        refine ⟨u1 ++ u2, fun q hq => ?_, (app_append _ _ _).symm, fun hp3 h3 => ?_⟩
        · simp only [stsL, List.mem_append] at hq ⊢
          exact hq.imp (a1 q) (a2 q)
        · have g1 := c1 hp3 fun s hs => h3 s (by simp only [stsL, List.mem_append]; exact .inl hs)
          have g2 := c2 (app u1 hp3) (app_same (fun s hs => h3 s (by simp only [stsL, List.mem_append]; exact .inr hs)) u1)
          simp only [passC, g1, g2, app_append]
      · cases h
    · cases h
theorem passA_loc {hp hp' : Hp} {x y : AV} (h : passA hp x = some (y, hp')) : ∃ up, (∀ q ∈ up, q.1 ∈ sts x) ∧ hp' = app up hp ∧ ∀ hp2, SameAt (sts x) hp hp2 → passA hp2 x = some (y, app up hp2) := by
  unfold passA at h
  split at h
  · rename_i cs
    split at h
    · rename_i l h2 e
      cases h
      obtain ⟨u, a, b, c⟩ := passC_loc e
      exact ⟨u, fun q hq => by simpa only [sts] using a q hq, b, fun hp2 hs => by simp only [passA, c hp2 (by simpa only [sts] using hs)]⟩
    · cases h
  · rename_i f cap
    split at h
    · rename_i l h2 e
      cases h
      obtain ⟨u, a, b, c⟩ := passC_loc e
      exact ⟨u, fun q hq => by simpa only [sts] using a q hq, b, fun hp2 hs => by simp only [passA, c hp2 (by simpa only [sts] using hs)]⟩
    · cases h
  · rename_i h1 h2
    obtain ⟨u, a, b, c⟩ := pass1_loc h
    refine ⟨u, a, b, fun hp2 hs => ?_⟩
    unfold passA
    split
    · exact absurd rfl (h1 _)
    · exact absurd rfl (h2 _ _)
    · exact c hp2 hs
theorem passL_loc {hp' : Hp} : ∀ {xs ys : List AV} {hp : Hp}, passL hp xs = some (ys, hp') → ∃ up, (∀ q ∈ up, q.1 ∈ stsL xs) ∧ hp' = app up hp ∧ ∀ hp2, SameAt (stsL xs) hp hp2 → passL hp2 xs = some (ys, app up hp2)
  | [], ys, hp, h => by
    simp only [passL, Option.some.injEq, Prod.mk.injEq] at h
    obtain ⟨rfl, rfl⟩ := h
    exact ⟨[], by simp, rfl, fun _ _ => rfl⟩
  | x :: xs, ys, hp, h => by
    simp only [passL] at h
    split at h
    · rename_i y hp1 e1
      split at h
      · rename_i ys' hp2 e2
        cases h
        obtain ⟨u1, a1, rfl, c1⟩ := passA_loc e1
        obtain ⟨u2, a2, rfl, c2⟩ := passL_loc e2
        refine ⟨u1 ++ u2, fun q hq => ?_, (app_append _ _ _).symm, fun hp3 h3 => ?_⟩
        · simp only [stsL, List.mem_append] at hq ⊢
          exact hq.imp (a1 q) (a2 q)
        · have g1 := c1 hp3 fun s hs => h3 s (by simp only [stsL, List.mem_append]; exact .inl hs)
          have g2 := c2 (app u1 hp3) (app_same (fun s hs => h3 s (by simp only [stsL, List.mem_append]; exact .inr hs)) u1)
          simp only [passL, g1, g2, app_append]
      · cases h
    · cases h

theorem pass1_sts {hp hp' : Hp} {x y : AV} (h : pass1 hp x = some (y, hp')) : sts y = [] := by
  unfold pass1 at h
  repeat' split at h
  all_goals first | (cases h; rfl) | cases h
theorem passC_sts {hp' : Hp} : ∀ {xs ys : List AV} {hp : Hp}, passC hp xs = some (ys, hp') → stsL ys = []
  | [], ys, hp, h => by simp only [passC, Option.some.injEq, Prod.mk.injEq] at h; rw [← h.1]; rfl
  | x :: xs, ys, hp, h => by
    simp only [passC] at h
    split at h
    · rename_i y hp1 e1
      split at h
      · rename_i ys' hp2 e2
        cases h
        simp only [stsL, pass1_sts e1, passC_sts e2, List.append_nil]
      · cases h
    · cases h
theorem passA_sts {hp hp' : Hp} {x y : AV} (h : passA hp x = some (y, hp')) : sts y = [] := by
  unfold passA at h
  split at h
  · split at h
    · rename_i e; cases h; simp only [sts]; exact passC_sts e
    · cases h
  · split at h
    · rename_i e; cases h; simp only [sts]; exact passC_sts e
    · cases h
  · exact pass1_sts h
theorem passL_sts {hp' : Hp} : ∀ {xs ys : List AV} {hp : Hp}, passL hp xs = some (ys, hp') → stsL ys = []
  | [], ys, hp, h => by simp only [passL, Option.some.injEq, Prod.mk.injEq] at h; rw [← h.1]; rfl
  | x :: xs, ys, hp, h => by
    simp only [passL] at h
    split at h
    · rename_i y hp1 e1
      split at h
      · rename_i ys' hp2 e2
        cases h
        simp only [stsL, passA_sts e1, passL_sts e2, List.append_nil]
      · cases h
    · cases h
theorem sts_nrm1 {k : Option Nat} {x : AV} (h : sts x = []) : sts (nrm1 k x) = [] := by
  unfold nrm1
  split
  · rfl
  · exact h
theorem sts_nrmC : ∀ {ks : List (Option Nat)} {xs : List AV}, stsL xs = [] → stsL (nrmC ks xs) = []
  | [], xs, h => by simpa only [nrmC] using h
  | k :: ks, [], h => by simpa only [nrmC] using h
  | k :: ks, x :: xs, h => by
    simp only [stsL, List.append_eq_nil_iff] at h
    simp only [nrmC, stsL, sts_nrm1 h.1, sts_nrmC h.2, List.append_nil]
theorem sts_nrmV {ks : List (Option Nat)} {x : AV} (h : sts x = []) : sts (nrmV ks x) = [] := by
  unfold nrmV
  split
  · simp only [sts] at h ⊢; exact sts_nrmC h
  · split
    · exact sts_nrm1 h
    · exact h
theorem sts_nrmL {ks : List (Option Nat)} : ∀ {xs : List AV}, stsL xs = [] → stsL (xs.map (nrmV ks)) = []
  | [], h => h
  | x :: xs, h => by
    simp only [stsL, List.append_eq_nil_iff] at h
    simp only [List.map_cons, stsL, sts_nrmV h.1, sts_nrmL h.2, List.append_nil]
theorem stsL_zip (idx : List Nat) : ∀ (l : List AV), stsL l = [] → stsL ((idx.zip l).map (·.2)) = [] := by
  induction idx with
  | nil => intro l _; simp [stsL]
  | cons i idx ih =>
    intro l h
    cases l with
    | nil => simp [stsL]
    | cons x l =>
      simp only [stsL, List.append_eq_nil_iff] at h
      simp only [List.zip_cons_cons, List.map_cons, stsL, h.1, ih l h.2, List.append_nil]
theorem wit_ABuildF {P : Program} {t : TypeId} {n : Nat} {idx : List Nat} {xs : List AV} {s : Site} {hp : Hp} {K : AV → Hp → Prop} (h : ABuildF P t n idx s K (passL hp xs)) : WitW (s :: stsL xs) (s :: stsL xs) hp (fun hp K => ABuildF P t n idx s K (passL hp xs)) K := by
  cases e : passL hp xs with
  | none => rw [e] at h; exact h.elim
  | some x =>
    obtain ⟨l, hp1⟩ := x
    rw [e] at h
    simp only [ABuildF] at h
    obtain ⟨up, a, rfl, b⟩ := passL_loc e
    obtain ⟨v, up2, w1, w2, w3⟩ := wit_ABuildSlice h
    refine ⟨v, up ++ up2, fun q hq => ?_, by rw [app_append]; exact w2, fun hp' hs' K' hk => ?_⟩
    · rcases List.mem_append.1 hq with hq | hq
      · exact List.mem_cons_of_mem _ (a q hq)
      · have := w1 q hq; simp only [List.mem_singleton] at this; rw [this]; exact .head _
    · try dsimp only
      rw [b hp' fun q hq => hs' q (List.mem_cons_of_mem _ hq)]
      simp only [ABuildF]
      rw [app_append] at hk
      refine w3 (app up hp') (fun q hq => ?_) K' hk
      rw [stsL_zip idx _ (sts_nrmL (passL_sts e))] at hq
      simp only [List.mem_singleton] at hq
      subst hq
      exact app_same (l := [q]) (fun r hr => by simp only [List.mem_singleton] at hr; subst hr; exact hs' r (.head _)) up q (by simp)
theorem wit_AStoreF {P : Program} {t : TypeId} {x v : AV} {hp : Hp} {K : Hp → Prop} (h : AStoreF P t x v hp K) : ∃ up, (∀ q ∈ up, q.1 ∈ sts x ∨ (∃ s ver k i off, x = .ept s ver k i off) ∧ q.1 ∈ sts v) ∧ K (app up hp) ∧ ∀ hp', SameAt (sts x ++ sts v) hp hp' → ∀ K' : Hp → Prop, K' (app up hp') → AStoreF P t x v hp' K' := by
  have base : AStore P t x v hp K → (∀ hp' (K' : Hp → Prop), AStoreF P t x v hp' K' = AStore P t x v hp' K') → ∃ up, (∀ q ∈ up, q.1 ∈ sts x ∨ (∃ s ver k i off, x = .ept s ver k i off) ∧ q.1 ∈ sts v) ∧ K (app up hp) ∧ ∀ hp', SameAt (sts x ++ sts v) hp hp' → ∀ K' : Hp → Prop, K' (app up hp') → AStoreF P t x v hp' K' := fun h e => by
    obtain ⟨up, h0, h1, h2⟩ := wit_AStore h
    exact ⟨up, fun q hq => .inl (h0 q hq), h1, fun hp' hs' K' hk => by rw [e]; exact h2 hp' hs' K' hk⟩
  cases x with
  | ept s ver k i off =>
    simp only [AStoreF] at h
    cases e : passA hp v with
    | none => rw [e] at h; exact h.elim
    | some y =>
      obtain ⟨v1, hp1⟩ := y
      rw [e] at h
      simp only [AStoreE] at h
      obtain ⟨up, a, rfl, b⟩ := passA_loc e
      obtain ⟨up2, w1, w2, w3⟩ := wit_AStore h
      refine ⟨up ++ up2, fun q hq => ?_, by rw [app_append]; exact w2, fun hp' hs' K' hk => ?_⟩
      · rcases List.mem_append.1 hq with hq | hq
        · exact .inr ⟨⟨_, _, _, _, _, rfl⟩, a q hq⟩
        · exact .inl (w1 q hq)
      · simp only [AStoreF]
        rw [b hp' fun q hq => hs' q (List.mem_append_right _ hq)]
        simp only [AStoreE]
        rw [app_append] at hk
        refine w3 (app up hp') (fun q hq => ?_) K' hk
        rw [sts_nrmV (passA_sts e), List.append_nil] at hq
        exact app_same (l := sts (.ept s ver k i off)) (fun r hr => hs' r (List.mem_append_left _ hr)) up q hq
  | _ => exact base h fun _ _ => rfl

/-! ### Calls -/
def Agree (D : List (Bool × Nat)) (hp hp' : Hp) : Prop := ∀ s : Site, s.key ∈ D → hp'.get s = hp.get s
theorem rch_mem (hp : Hp) (n : Nat) (l : List Site) (s : Site) (h : s ∈ l) : s ∈ rch hp n l := by
  cases n with
  | zero => exact h
  | succ n => exact List.mem_append_left _ h
theorem rch_same {hp hp' : Hp} : ∀ (n : Nat) (l : List Site), SameAt (rch hp n l) hp hp' → rch hp' n l = rch hp n l
  | 0, l, _ => rfl
  | n + 1, l, h => by
    have e : (l.flatMap fun s => stsB (hp'.get s).2) = l.flatMap fun s => stsB (hp.get s).2 := by
      have h1 : ∀ s ∈ l, hp'.get s = hp.get s := fun s hs => h s (List.mem_append_left _ hs)
      clear h
      induction l with
      | nil => rfl
      | cons x l ih =>
        simp only [List.flatMap_cons, h1 x (.head _)]
        rw [ih fun s hs => h1 s (.tail _ hs)]
    simp only [rch]
    rw [e, rch_same n _ fun s hs => h s (List.mem_append_right _ hs)]
def upl (hp : Hp) (ss0 : List Site) : List Site → List (Nat × Blk) → List (Site × Nat × Blk)
  | [], _ => []
  | s :: ss, [] => (s, (hp.get s).1, .gone) :: upl hp ss0 ss []
  | s :: ss, (v, b) :: r => (s, (hp.get s).1 + v, rnB (upG hp ss0) b) :: upl hp ss0 ss r
theorem upl_app (hp : Hp) (ss0 ss : List Site) (hs : List (Nat × Blk)) (acc : Hp) : hpU hp ss0 ss hs acc = app (upl hp ss0 ss hs) acc := by
  induction ss generalizing hs acc with
  | nil => cases hs <;> rfl
  | cons s ss ih =>
    cases hs with
    | nil => simp only [hpU, upl, ih]; rfl
    | cons x r => obtain ⟨v, b⟩ := x; simp only [hpU, upl, ih]; rfl
theorem upl_mem (hp : Hp) (ss0 ss : List Site) (hs : List (Nat × Blk)) : ∀ q ∈ upl hp ss0 ss hs, q.1 ∈ ss := by
  induction ss generalizing hs with
  | nil => intro q hq; cases hs <;> simp [upl] at hq
  | cons s ss ih =>
    intro q hq
    cases hs with
    | nil =>
      simp only [upl] at hq
      rcases List.mem_cons.1 hq with rfl | hq
      · simp
      · exact List.mem_cons_of_mem _ (ih [] q hq)
    | cons x r =>
      obtain ⟨v, b⟩ := x
      simp only [upl] at hq
      rcases List.mem_cons.1 hq with rfl | hq
      · simp
      · exact List.mem_cons_of_mem _ (ih r q hq)
section
variable {hp hp' : Hp} {ss : List Site} (h : SameAt ss hp hp')
include h
theorem dnG_same : dnG hp' ss = dnG hp ss := by
  funext s ver
  unfold dnG
  cases e : idx ss s with
  | none => rfl
  | some i => simp only [h s (List.mem_of_getElem? (idx_some e))]
theorem upG_same : upG hp' ss = upG hp ss := by
  funext s ver
  unfold upG
  cases s with
  | e i =>
    cases e : ss[i]? with
    | none => simp only [e]
    | some s' => simp only [e, h s' (List.mem_of_getElem? e)]
  | _ => rfl
theorem MB_same {hs : List Blk} (hm : MB hp ss ss hs) : MB hp' ss ss hs := by
  have key : ∀ (l : List Site) (hs : List Blk), (∀ s ∈ l, s ∈ ss) → MB hp ss l hs → MB hp' ss l hs := by
    intro l
    induction l with
    | nil => intro hs _ hm; cases hs <;> exact hm
    | cons s l ih =>
      intro hs hl hm
      cases hs with
      | nil => trivial
      | cons b hs =>
        simp only [MB] at hm ⊢
        rw [dnG_same h, h s (hl s (.head _))]
        exact ⟨hm.1, ih hs (fun q hq => hl q (.tail _ hq)) hm.2⟩
  exact key ss hs (fun _ hs => hs) hm
theorem upl_same (hs : List (Nat × Blk)) : upl hp' ss ss hs = upl hp ss ss hs := by
  have key : ∀ (l : List Site) (hs : List (Nat × Blk)), (∀ s ∈ l, s ∈ ss) → upl hp' ss l hs = upl hp ss l hs := by
    intro l
    induction l with
    | nil => intro hs _; cases hs <;> rfl
    | cons s l ih =>
      intro hs hl
      cases hs with
      | nil => simp only [upl, h s (hl s (.head _)), ih [] (fun q hq => hl q (.tail _ hq))]
      | cons x r => obtain ⟨v, b⟩ := x; simp only [upl, h s (hl s (.head _)), upG_same h, ih r (fun q hq => hl q (.tail _ hq))]
  exact key ss hs fun _ hs => hs
end
def callD (hp : Hp) (xs : List AV) (s : Site) : List (Bool × Nat) := (rch hp 2 (stsL xs)).map Site.key ++ [s.key]
theorem wit_AFn {P : Program} {f : FuncId} {xs : List AV} {s : Site} {hp : Hp} {K : AV → Hp → Prop} (h : AFn P f xs s hp K) :
    ∃ v up, (∀ q ∈ up, q.1.key ∈ callD hp xs s) ∧ K v (app up hp) ∧ ∀ hp', Agree (callD hp xs s) hp hp' → ∀ K' : AV → Hp → Prop, K' v (app up hp') → AFn P f xs s hp' K' := by
  obtain ⟨hc, h⟩ := h
  have hst : ∀ q ∈ stsL xs, q.key ∈ callD hp xs s := fun q hq => List.mem_append_left _ (List.mem_map_of_mem (rch_mem hp 2 _ q hq))
  rcases h with h | h | h
  · unfold ACallF at h
    split at h
    · rename_i l hp1 e
      obtain ⟨args', r, h1, h2, h3⟩ := h
      obtain ⟨up, a, rfl, b⟩ := passL_loc e
      have hs : ∀ hp', Agree (callD hp xs s) hp hp' → SameAt (stsL xs) hp hp' := fun hp' hag q hq => hag q (hst q hq)
      rcases h3 with h3 | ⟨hf, h3⟩
      · refine ⟨r, up, fun q hq => hst _ (a q hq), h3, fun hp' hag K' hk => ⟨hc, .inl ?_⟩⟩
        rw [b hp' (hs hp' hag)]
        exact ⟨args', r, h1, h2, .inl hk⟩
      · refine ⟨r, [], by simp, h3, fun hp' hag K' hk => ⟨hc, .inl ?_⟩⟩
        rw [b hp' (hs hp' hag)]
        exact ⟨args', r, h1, h2, .inr ⟨hf, hk⟩⟩
    · exact h.elim
  · obtain ⟨ss, args, hs, r, hs', hok, hn, hlen, hm, ha, hall, hK⟩ := h
    have hss : ∀ q ∈ ss, q.key ∈ callD hp xs s := fun q hq => by
      have := List.all_eq_true.1 hall q hq
      simpa [callD] using this
    refine ⟨_, upl hp ss ss hs', fun q hq => hss _ (upl_mem _ _ _ _ q hq), by rw [← upl_app]; exact hK, fun hp' hag K' hk => ⟨hc, .inr (.inl ?_)⟩⟩
    have hsame : SameAt ss hp hp' := fun q hq => hag q (hss q hq)
    have hr : rch hp' 2 (stsL xs) = rch hp 2 (stsL xs) := rch_same 2 _ fun q hq => hag q (List.mem_append_left _ (List.mem_map_of_mem hq))
    refine ⟨ss, args, hs, r, hs', hok, hn, hlen, MB_same hsame hm, by rw [dnG_same hsame]; exact ha, by rw [hr]; exact hall, ?_⟩
    rw [upG_same hsame, upl_app, upl_same hsame]
    exact hk

  · cases e : passL hp xs with
    | none => rw [e] at h; exact h.elim
    | some y =>
      obtain ⟨l, hp1⟩ := y
      rw [e] at h
      obtain ⟨up, a, rfl, b⟩ := passL_loc e
      obtain ⟨ss, args, hs, r, hs', hok, hn, hlen, hm, ha, hall, hK⟩ := h
      have hl : stsL l = [] := passL_sts e
      have hr0 : ∀ hp2 : Hp, rch hp2 2 (stsL l) = [] := fun hp2 => by rw [hl]; rfl
      have hss : ∀ q ∈ ss, q.key = s.key := fun q hq => by
        have := List.all_eq_true.1 hall q hq
        rw [hr0] at this
        simpa using this
      have hkey : s.key ∈ callD hp xs s := List.mem_append_right _ (List.mem_singleton.2 rfl)
      refine ⟨_, up ++ upl (app up hp) ss ss hs', fun q hq => ?_, by rw [app_append, ← upl_app]; exact hK, fun hp' hag K' hk => ⟨hc, .inr (.inr ?_)⟩⟩
      · rcases List.mem_append.1 hq with hq | hq
        · exact hst _ (a q hq)
        · rw [hss _ (upl_mem _ _ _ _ q hq)]; exact hkey
      · rw [b hp' fun q hq => hag q (hst q hq)]
        have hsame : SameAt ss (app up hp) (app up hp') := app_same (fun q hq => hag q (by rw [hss q hq]; exact hkey)) up
        refine ⟨ss, args, hs, r, hs', hok, hn, hlen, MB_same hsame hm, by rw [dnG_same hsame]; exact ha, by rw [hr0]; rw [hr0] at hall; exact hall, ?_⟩
        rw [upG_same hsame, upl_app, upl_same hsame, ← app_append]
        exact hk

/-! ### An operation -/
def opIn (ev : Operand → AV) (o : Oper) (s : Site) (hp : Hp) : List (Bool × Nat) :=
  match o.op with
  | .call ⟨.value f, args, _⟩ => match ev f with
    | .func _ cap => callD hp (args.toList.map ev ++ cap) s
    | _ => []
  | .call ⟨_, args, _⟩ => (stsL (args.toList.map ev)).map Site.key ++ [s.key]
  | op => (stsL (op.operands.toList.map ev)).map Site.key ++ [s.key]
def opOut (ev : Operand → AV) (o : Oper) (s : Site) (hp : Hp) : List (Bool × Nat) :=
  match o.op with
  | .alloc _ | .box _ _ | .makeSlice _ _ _ | .makeMap _ _ => [s.key]
  | .buildSlice _ _ ps => (stsL (ps.toList.map fun p => ev p.2)).map Site.key ++ [s.key]
  | .store _ x y => (match ev x with | .ept _ _ _ _ _ => sts (ev x) ++ sts (ev y) | _ => sts (ev x)).map Site.key
  | .mapUpdate _ x _ _ => (sts (ev x)).map Site.key
  | .call ⟨.value f, args, _⟩ => match ev f with
    | .func _ cap => callD hp (args.toList.map ev ++ cap) s
    | _ => []
  | .call ⟨.builtin b, args, _⟩ => match b with
    | .append | .copy | .clear => (match args.toList with | x :: _ => (sts (ev x)).map Site.key | [] => []) ++ [s.key]
    | _ => []
  | _ => []
def opDet (P : Program) (ev : Operand → AV) (o : Oper) (hp : Hp) : Prop :=
  match o.op with
  | .binOp _ t x y _ => nilC P t y = true → nilDet P t (ev x) hp
  | .call ⟨.builtin .cap, _, _⟩ => False
  | _ => True
def Loc (P : Program) (ev : Operand → AV) (o : Oper) (s : Site) (hp : Hp) (K : AV → Hp → Prop) : Prop :=
  ∃ v up, (∀ q ∈ up, q.1.key ∈ opOut ev o s hp) ∧ K v (app up hp) ∧ ∀ (ev' : Operand → AV) (hp' : Hp), (∀ x ∈ o.op.operands.toList, ev' x = ev x) → Agree (opIn ev o s hp) hp hp' → ∀ K' : AV → Hp → Prop, K' v (app up hp') → ADo P ev' o s hp' K'
theorem map_ev {ev ev' : Operand → AV} {l : List Operand} (h : ∀ x ∈ l, ev' x = ev x) : l.map ev' = l.map ev := List.map_congr_left h
theorem map_ev2 {ev ev' : Operand → AV} {l : List (Nat × Operand)} (h : ∀ x ∈ l.map (·.2), ev' x = ev x) : (l.map fun p => (p.1, ev' p.2)) = l.map fun p => (p.1, ev p.2) :=
  List.map_congr_left fun p hp => by rw [h p.2 (List.mem_map_of_mem hp)]
theorem agree_at {D : List (Bool × Nat)} {hp hp' : Hp} (h : Agree D hp hp') {l : List Site} (hl : ∀ s ∈ l, s.key ∈ D) : SameAt l hp hp' := fun s hs => h s (hl s hs)

theorem ADo_loc {P : Program} {ev : Operand → AV} {o : Oper} {s : Site} {hp : Hp} {K : AV → Hp → Prop} (h : ADo P ev o s hp K) (hd : opDet P ev o hp) : Loc P ev o s hp K := by
  obtain ⟨dst, op, type, pos, after, guard⟩ := o
  unfold Loc
  have pure0 : ∀ {F : (Operand → AV) → (AV → Prop) → Prop}, (Wit (F ev) fun v => K v hp) → (∀ ev', (∀ x ∈ op.operands.toList, ev' x = ev x) → F ev' = F ev) → (∀ ev' hp' (K' : AV → Hp → Prop), ADo P ev' ⟨dst, op, type, pos, after, guard⟩ s hp' K' = F ev' fun v => K' v hp') →
      Loc P ev ⟨dst, op, type, pos, after, guard⟩ s hp K := by
    intro F hw he hF
    obtain ⟨a, h1, h2⟩ := hw
    exact ⟨a, [], by simp, h1, fun ev' hp' hev _ K' hk => by rw [hF, he ev' hev]; exact h2 _ hk⟩
  have read0 : ∀ {l : List Site} {F : (Operand → AV) → Hp → (AV → Prop) → Prop}, WitR l hp (F ev) (fun v => K v hp) → (∀ q ∈ l, q.key ∈ opIn ev ⟨dst, op, type, pos, after, guard⟩ s hp) → (∀ ev', (∀ x ∈ op.operands.toList, ev' x = ev x) → F ev' = F ev) →
      (∀ ev' hp' (K' : AV → Hp → Prop), ADo P ev' ⟨dst, op, type, pos, after, guard⟩ s hp' K' = F ev' hp' fun v => K' v hp') → Loc P ev ⟨dst, op, type, pos, after, guard⟩ s hp K := by
    intro l F hw hl he hF
    obtain ⟨a, h1, h2⟩ := hw
    exact ⟨a, [], by simp, h1, fun ev' hp' hev hag K' hk => by rw [hF, he ev' hev]; exact h2 hp' (agree_at hag hl) _ hk⟩
  have write0 : ∀ {l wl : List Site} {F : (Operand → AV) → Hp → (AV → Hp → Prop) → Prop}, WitW l wl hp (F ev) K → (∀ q ∈ l, q.key ∈ opIn ev ⟨dst, op, type, pos, after, guard⟩ s hp) → (∀ q ∈ wl, q.key ∈ opOut ev ⟨dst, op, type, pos, after, guard⟩ s hp) → (∀ ev', (∀ x ∈ op.operands.toList, ev' x = ev x) → F ev' = F ev) →
      (∀ ev' hp' (K' : AV → Hp → Prop), ADo P ev' ⟨dst, op, type, pos, after, guard⟩ s hp' K' = F ev' hp' K') → Loc P ev ⟨dst, op, type, pos, after, guard⟩ s hp K := by
    intro l wl F hw hl hwl he hF
    obtain ⟨a, up, h0, h1, h2⟩ := hw
    exact ⟨a, up, fun q hq => hwl _ (h0 q hq), h1, fun ev' hp' hev hag K' hk => by rw [hF, he ev' hev]; exact h2 hp' (agree_at hag hl) _ hk⟩
  have inS : ∀ (xs : List AV) (x : AV), x ∈ xs → ∀ q ∈ sts x, q.key ∈ (stsL xs).map Site.key ++ [s.key] := fun xs x hx q hq => List.mem_append_left _ (List.mem_map_of_mem (mem_stsL hx hq))
  cases op <;> simp only [ADo] at h
  case move x => exact pure0 (F := fun ev K => K (ev x)) ⟨_, h, fun _ h => h⟩ (fun ev' he => by rw [he x (by simp [Op.operands])]) fun _ _ _ => rfl
  case assign x => exact pure0 (F := fun ev K => K (ev x)) ⟨_, h, fun _ h => h⟩ (fun ev' he => by rw [he x (by simp [Op.operands])]) fun _ _ _ => rfl
  case pick x y z => exact pure0 (F := fun ev K => APick (ev x) (ev y) (ev z) K) (wit_APick h) (fun ev' he => by rw [he x (by simp [Op.operands]), he y (by simp [Op.operands]), he z (by simp [Op.operands])]) fun _ _ _ => rfl
  case alloc t => exact write0 (F := fun ev hp K => AAlloc P t s hp K) (wit_AAlloc h) (by simp [opIn]) (by simp [opOut]) (fun _ _ => rfl) fun _ _ _ => rfl
  case box t x => exact write0 (F := fun ev hp K => ABox t (ev x) s hp K) (wit_ABox h) (by
      intro q hq
      rcases List.mem_cons.1 hq with rfl | hq
      · simp [opIn]
      · simp only [opIn]; exact inS _ (ev x) (by simp [Op.operands]) q hq) (by simp [opOut]) (fun ev' he => by rw [he x (by simp [Op.operands])]) fun _ _ _ => rfl
  case build t ps =>
    have hF : ∀ ev' : Operand → AV, (∀ x ∈ (Op.build t ps).operands.toList, ev' x = ev x) → (fun hp K => ABuild P t (ps.toList.map fun p => (p.1, ev' p.2)) hp K) = fun hp K => ABuild P t (ps.toList.map fun p => (p.1, ev p.2)) hp K := fun ev' he => by
      rw [map_ev2 (ev' := ev') (ev := ev) (by simpa only [Op.operands] using he)]
    refine read0 (F := fun ev hp K => ABuild P t (ps.toList.map fun p => (p.1, ev p.2)) hp K) (wit_ABuild h) (fun q hq => ?_) hF fun _ _ _ => rfl
    simp only [opIn, Op.operands]
    refine List.mem_append_left _ (List.mem_map_of_mem ?_)
    rw [List.map_map] at hq
    simp only [List.map_map]
    exact hq
  case buildSlice t n ps =>
    have hF : ∀ ev' : Operand → AV, (∀ x ∈ (Op.buildSlice t n ps).operands.toList, ev' x = ev x) → (fun hp K => ABuildF P t n (ps.toList.map (·.1)) s K (passL hp (ps.toList.map fun p => ev' p.2))) = fun hp K => ABuildF P t n (ps.toList.map (·.1)) s K (passL hp (ps.toList.map fun p => ev p.2)) := fun ev' he => by
      have e : (ps.toList.map fun p => ev' p.2) = ps.toList.map fun p => ev p.2 := List.map_congr_left fun p hp => he p.2 (by simp only [Op.operands]; simpa using ⟨p.1, by simpa using hp⟩)
      rw [e]
    refine write0 (F := fun ev hp K => ABuildF P t n (ps.toList.map (·.1)) s K (passL hp (ps.toList.map fun p => ev p.2))) (wit_ABuildF h) (fun q hq => ?_) (fun q hq => ?_) hF fun _ _ _ => rfl
    · simp only [opIn, Op.operands]
      rcases List.mem_cons.1 hq with rfl | hq
      · simp
      · refine List.mem_append_left _ (List.mem_map_of_mem ?_)
        simp only [List.map_map]
        simpa [Function.comp_def] using hq
    · simp only [opOut]
      rcases List.mem_cons.1 hq with rfl | hq
      · simp
      · exact List.mem_append_left _ (List.mem_map_of_mem hq)
  case load t x => exact read0 (F := fun ev hp K => ALoad P t (ev x) hp K) (wit_ALoad h) (fun q hq => by simp only [opIn]; exact inS _ (ev x) (by simp [Op.operands]) q hq) (fun ev' he => by rw [he x (by simp [Op.operands])]) fun _ _ _ => rfl
  case store t x y =>
    obtain ⟨up, h0, h1, h2⟩ := wit_AStoreF h
    refine ⟨_, up, fun q hq => by
      simp only [opOut]
      refine List.mem_map_of_mem ?_
      rcases h0 q hq with h0 | ⟨⟨s', v', k', i', o', e⟩, h0⟩
      · split
        · exact List.mem_append_left _ h0
        · exact h0
      · rw [e]; exact List.mem_append_right _ h0, h1, fun ev' hp' he hag K' hk => ?_⟩
    simp only [ADo, he x (by simp [Op.operands]), he y (by simp [Op.operands])]
    refine h2 hp' (agree_at hag fun q hq => ?_) _ hk
    simp only [opIn]
    rcases List.mem_append.1 hq with hq | hq
    · exact inS _ (ev x) (by simp [Op.operands]) q hq
    · exact inS _ (ev y) (by simp [Op.operands]) q hq
  case nilCheck x => exact read0 (F := fun ev hp K => ANilCheck (ev x) hp K) (wit_ANilCheck h) (fun q hq => by simp only [opIn]; exact inS _ (ev x) (by simp [Op.operands]) q hq) (fun ev' he => by rw [he x (by simp [Op.operands])]) fun _ _ _ => rfl
  case binOp op t x y yt =>
    by_cases hn : nilC P t y = true
    · simp only [hn, if_true] at h
      exact read0 (F := fun ev hp K => ANil P op t (ev x) hp K) (wit_ANil (hd hn) h) (fun q hq => by simp only [opIn]; exact inS _ (ev x) (by simp [Op.operands]) q hq) (fun ev' he => by rw [he x (by simp [Op.operands])]) fun _ _ _ => by simp only [ADo, hn, if_true]
    · simp only [hn] at h
      exact pure0 (F := fun ev K => ABin P op t (ev x) (ev y) K) (wit_ABin h) (fun ev' he => by rw [he x (by simp [Op.operands]), he y (by simp [Op.operands])]) fun _ _ _ => by simp only [ADo, hn]; rfl
  case unOp op t x => exact pure0 (F := fun ev K => AUn op (ev x) K) (wit_AUn h) (fun ev' he => by rw [he x (by simp [Op.operands])]) fun _ _ _ => rfl
  case convert src d x => exact pure0 (F := fun ev K => AConv P src d (ev x) K) (wit_AConv h) (fun ev' he => by rw [he x (by simp [Op.operands])]) fun _ _ _ => rfl
  case makeInterface t x => exact pure0 (F := fun ev K => AIface P t (ev x) K) (wit_AIface h) (fun ev' he => by rw [he x (by simp [Op.operands])]) fun _ _ _ => rfl
  case makeFunc f fi ca => exact pure0 (F := fun ev K => AMakeFunc f fi (ca.toList.map ev) K) (wit_AMakeFunc h) (fun ev' he => by rw [map_ev fun x hx => he x (by simp [Op.operands, hx])]) fun _ _ _ => rfl
  case makeMap t r =>
    obtain ⟨rfl, h⟩ := h
    exact write0 (F := fun ev hp K => AMakeMap P t s hp K) (wit_AMakeMap h) (by simp [opIn]) (by simp [opOut]) (fun _ _ => rfl) fun _ _ _ => by simp only [ADo, true_and]
  case makeSlice t l m => exact write0 (F := fun ev hp K => AMake P t (ev l) (ev m) s hp K) (wit_AMake h) (by simp [opIn]) (by simp [opOut]) (fun ev' he => by rw [he l (by simp [Op.operands]), he m (by simp [Op.operands])]) fun _ _ _ => rfl
  case slice t x lo hi mx =>
    obtain ⟨rfl, h⟩ := h
    exact read0 (F := fun ev hp K => ASlice P t (ev x) (lo.map ev) (hi.map ev) hp K) (wit_ASlice h) (fun q hq => by simp only [opIn]; exact inS _ (ev x) (by simp [Op.operands]) q hq) (fun ev' he => by
      rw [he x (by simp [Op.operands])]
      have e1 : lo.map ev' = lo.map ev := by cases lo with | none => rfl | some y => simp only [Option.map_some, he y (by simp [Op.operands])]
      have e2 : hi.map ev' = hi.map ev := by cases hi with | none => rfl | some y => simp only [Option.map_some, he y (by simp [Op.operands])]
      rw [e1, e2]) fun _ _ _ => by simp only [ADo, true_and]
  case fieldAddr t x j => exact read0 (F := fun ev hp K => AFieldAddr P t (ev x) j hp K) (wit_AFieldAddr h) (fun q hq => by simp only [opIn]; exact inS _ (ev x) (by simp [Op.operands]) q hq) (fun ev' he => by rw [he x (by simp [Op.operands])]) fun _ _ _ => rfl
  case field t x j => exact pure0 (F := fun ev K => AField P t (ev x) j K) (wit_AField h) (fun ev' he => by rw [he x (by simp [Op.operands])]) fun _ _ _ => rfl
  case indexAddr t x i => exact read0 (F := fun ev hp K => AIndexAddr P t (ev x) (ev i) hp K) (wit_AIndexAddr h) (fun q hq => by simp only [opIn]; exact inS _ (ev x) (by simp [Op.operands]) q hq) (fun ev' he => by rw [he x (by simp [Op.operands]), he i (by simp [Op.operands])]) fun _ _ _ => rfl
  case index t x i => exact pure0 (F := fun ev K => AIndex P t (ev x) (ev i) K) (wit_AIndex h) (fun ev' he => by rw [he x (by simp [Op.operands]), he i (by simp [Op.operands])]) fun _ _ _ => rfl
  case lookup t x i ok => exact read0 (F := fun ev hp K => ALookup P t (ev x) (ev i) ok hp K) (wit_ALookup h) (fun q hq => by simp only [opIn]; exact inS _ (ev x) (by simp [Op.operands]) q hq) (fun ev' he => by rw [he x (by simp [Op.operands]), he i (by simp [Op.operands])]) fun _ _ _ => rfl
  case mapUpdate t m k x =>
    obtain ⟨up, h0, h1, h2⟩ := wit_AMapUpd h
    refine ⟨_, up, fun q hq => by simp only [opOut]; exact List.mem_map_of_mem (h0 q hq), h1, fun ev' hp' he hag K' hk => ?_⟩
    simp only [ADo, he x (by simp [Op.operands]), he m (by simp [Op.operands]), he k (by simp [Op.operands])]
    exact h2 hp' (agree_at hag fun q hq => by simp only [opIn]; exact inS _ (ev m) (by simp [Op.operands]) q hq) _ hk
  case extract x i => exact pure0 (F := fun ev K => AExtract (ev x) i K) (wit_AExtract h) (fun ev' he => by rw [he x (by simp [Op.operands])]) fun _ _ _ => rfl
  case call cl =>
    obtain ⟨callee, args, ts⟩ := cl
    unfold ACallOp at h
    have hops : ∀ (b : Builtin) (ev' : Operand → AV), (∀ x ∈ (Op.call ⟨.builtin b, args, ts⟩).operands.toList, ev' x = ev x) → args.toList.map ev' = args.toList.map ev := fun b ev' he => map_ev fun x hx => he x (by simp [Op.operands, Call.operands, hx])
    cases callee with
    | builtin b =>
      simp only at h
      unfold ABuiltin at h
      split at h
      · rename_i x hx
        split at h
        · rename_i t ht
          exact read0 (F := fun ev hp K => match args.toList.map ev with | [x] => ALen P t x hp K | _ => False) (by
            obtain ⟨a, h1, h2⟩ := wit_ALen h
            exact ⟨a, h1, fun hp' hs K' hk => by simp only [hx]; exact h2 hp' hs K' hk⟩) (fun q hq => by simp only [opIn, hx]; exact inS _ x (by simp) q hq) (fun ev' he => by simp only [hops _ ev' he]) fun ev' hp' K' => by
              simp only [ADo, ACallOp]
              generalize args.toList.map ev' = l
              cases l with
              | nil => rfl
              | cons x l => cases l with
                | nil => simp only [ABuiltin, ht]
                | cons y l => rfl
        · exact h.elim
      · rename_i x y hx
        exact write0 (F := fun ev hp K => ABuiltin P .append ts (args.toList.map ev) s hp K) (by
          obtain ⟨a, up, h0, h1, h2⟩ := wit_AAppend h
          exact ⟨a, up, h0, h1, fun hp' hs K' hk => by simp only [ABuiltin, hx]; exact h2 hp' hs K' hk⟩) (fun q hq => by
            simp only [opIn, hx]
            rcases List.mem_cons.1 hq with rfl | hq
            · simp
            · rcases List.mem_append.1 hq with hq | hq
              · exact inS _ x (by simp) q hq
              · exact inS _ y (by simp) q hq) (fun q hq => by
            simp only [opOut]
            cases ha : args.toList with
            | nil => rw [ha] at hx; simp at hx
            | cons x0 xs0 =>
              rw [ha] at hx
              simp only [List.map_cons, List.cons.injEq] at hx
              simp only [hx.1]
              rcases List.mem_cons.1 hq with rfl | hq
              · simp
              · exact List.mem_append_left _ (List.mem_map_of_mem hq)) (fun ev' he => by simp only [hops _ ev' he]) fun _ _ _ => rfl
      · rename_i x y hx
        exact pure0 (F := fun ev K => match args.toList.map ev with | [x, y] => AMax x y K | _ => False) (by
          obtain ⟨a, h1, h2⟩ := wit_AMax h
          exact ⟨a, h1, fun K' hk => by simp only [hx]; exact h2 K' hk⟩) (fun ev' he => by simp only [hops _ ev' he]) fun ev' hp' K' => by
            simp only [ADo, ACallOp]
            generalize args.toList.map ev' = l
            cases l with
            | nil => rfl
            | cons x l => cases l with
              | nil => rfl
              | cons y l => cases l with
                | nil => rfl
                | cons z l => rfl
      · rename_i x y hx
        exact pure0 (F := fun ev K => match args.toList.map ev with | [x, y] => AMin x y K | _ => False) (by
          obtain ⟨a, h1, h2⟩ := wit_AMin h
          exact ⟨a, h1, fun K' hk => by simp only [hx]; exact h2 K' hk⟩) (fun ev' he => by simp only [hops _ ev' he]) fun ev' hp' K' => by
            simp only [ADo, ACallOp]
            generalize args.toList.map ev' = l
            cases l with
            | nil => rfl
            | cons x l => cases l with
              | nil => rfl
              | cons y l => cases l with
                | nil => rfl
                | cons z l => rfl
      · rename_i x y hx
        exact write0 (F := fun ev hp K => ABuiltin P .copy ts (args.toList.map ev) s hp K) (by
          obtain ⟨a, up, h0, h1, h2⟩ := wit_ACopy h
          exact ⟨a, up, h0, h1, fun hp' hs K' hk => by simp only [ABuiltin, hx]; exact h2 hp' hs K' hk⟩) (fun q hq => by
            simp only [opIn, hx]
            rcases List.mem_append.1 hq with hq | hq
            · exact inS _ x (by simp) q hq
            · exact inS _ y (by simp) q hq) (fun q hq => by
            simp only [opOut]
            cases ha : args.toList with
            | nil => rw [ha] at hx; simp at hx
            | cons x0 xs0 =>
              rw [ha] at hx
              simp only [List.map_cons, List.cons.injEq] at hx
              simp only [hx.1]
              exact List.mem_append_left _ (List.mem_map_of_mem hq)) (fun ev' he => by simp only [hops _ ev' he]) fun _ _ _ => rfl
      · rename_i x hx
        exact write0 (F := fun ev hp K => ABuiltin P .clear ts (args.toList.map ev) s hp K) (by
          obtain ⟨a, up, h0, h1, h2⟩ := wit_AClear h
          exact ⟨a, up, h0, h1, fun hp' hs K' hk => by simp only [ABuiltin, hx]; exact h2 hp' hs K' hk⟩) (fun q hq => by
            simp only [opIn, hx]
            exact inS _ x (by simp) q hq) (fun q hq => by
            simp only [opOut]
            cases ha : args.toList with
            | nil => rw [ha] at hx; simp at hx
            | cons x0 xs0 =>
              rw [ha] at hx
              simp only [List.map_cons, List.cons.injEq] at hx
              simp only [hx.1]
              exact List.mem_append_left _ (List.mem_map_of_mem hq)) (fun ev' he => by simp only [hops _ ev' he]) fun _ _ _ => rfl
      · exact hd.elim
      · exact h.elim
    | value f =>
      simp only at h
      split at h
      · rename_i g cap e
        obtain ⟨v, up, h0, h1, h2⟩ := wit_AFn h
        refine ⟨v, up, fun q hq => by simp only [opOut, e]; exact h0 q hq, h1, fun ev' hp' he hag K' hk => ?_⟩
        have ef : ev' f = .func g cap := by rw [he f (by simp [Op.operands, Call.operands]), e]
        have ea : args.toList.map ev' = args.toList.map ev := map_ev fun x hx => he x (by simp [Op.operands, Call.operands, hx])
        simp only [ADo, ACallOp, ef, ea]
        exact h2 hp' (by simpa only [opIn, e] using hag) K' hk
      · exact h.elim
    | invoke r m => exact h.elim
end Go.Proofs.YtanbgeelphfggaaDoor.E
