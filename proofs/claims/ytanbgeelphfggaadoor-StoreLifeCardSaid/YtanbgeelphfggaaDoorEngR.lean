/- The abstract machine of this claim, part R: what an operation looks at, and what it turns. No conditions. -/
import Derived.Test.YtanbgeelphfggaaDoorEngK
namespace Go.Proofs.YtanbgeelphfggaaDoor.E
open Go
set_option linter.unusedSimpArgs false
set_option linter.unusedVariables false
set_option linter.unusedSectionVars false
set_option maxRecDepth 20000

/-! ### Operations that look at no memory -/
/-- One value is answered. -/
def Wit (F : (AV → Prop) → Prop) (K : AV → Prop) : Prop := ∃ a, K a ∧ ∀ K' : AV → Prop, K' a → F K'
section
variable {P : Program} {K : AV → Prop}
theorem wit_AInt {op : BinOp} {k : IntKind} {a b : Int} (h : AInt op k a b K) : Wit (AInt op k a b) K := by
  cases op <;> first | exact ⟨_, h, fun _ h => h⟩ | exact ⟨_, h.2, fun _ hk => ⟨h.1, hk⟩⟩ | exact h.elim
theorem wit_AStr {op : BinOp} {a b : ByteArray} (h : AStr op a b K) : Wit (AStr op a b) K := by
  cases op <;> first | exact ⟨_, h, fun _ h => h⟩ | exact ⟨_, h.2, fun _ hk => ⟨h.1, hk⟩⟩ | exact h.elim
theorem wit_AEqS {s : Option (List EK)} {xs ys : List AV} {K : Bool → Prop} (h : AEqS s xs ys K) : ∃ b, K b ∧ ∀ K' : Bool → Prop, K' b → AEqS s xs ys K' := by
  unfold AEqS at h ⊢
  cases s with
  | none => exact h.elim
  | some l => exact ⟨_, h.2.2, fun K' hk => ⟨h.1, h.2.1, hk⟩⟩
theorem wit_ABin {op : BinOp} {t : TypeId} {x y : AV} (h : ABin P op t x y K) : Wit (ABin P op t x y) K := by
  unfold Wit
  unfold ABin at h ⊢
  split at h
  · rename_i k a k' b
    split at h
    · exact ⟨_, h.2, fun _ hk => ⟨h.1, hk⟩⟩
    · exact ⟨_, h.2, fun _ hk => ⟨h.1, hk⟩⟩
    · rename_i h1 h2
      obtain ⟨h3, h⟩ := h
      obtain ⟨a', hk, hall⟩ := wit_AInt h
      exact ⟨a', hk, fun K' hk' => ⟨h3, hall K' hk'⟩⟩
  · exact wit_AStr h
  · split at h
    · exact ⟨_, h.2, fun _ hk => ⟨h.1, hk⟩⟩
    · exact ⟨_, h.2, fun _ hk => ⟨h.1, hk⟩⟩
    · exact h.elim
  · split at h
    · obtain ⟨b, hk, hall⟩ := wit_AEqS h
      exact ⟨_, hk, fun K' hk' => hall _ hk'⟩
    · obtain ⟨b, hk, hall⟩ := wit_AEqS h
      exact ⟨_, hk, fun K' hk' => hall _ hk'⟩
    · exact h.elim
  · exact h.elim
theorem wit_AUn {op : UnOp} {x : AV} (h : AUn op x K) : Wit (AUn op x) K := by
  unfold Wit
  unfold AUn at h ⊢
  split at h <;> first | exact ⟨_, h, fun _ h => h⟩ | exact h.elim
theorem wit_AConv {s t : TypeId} {x : AV} (h : AConv P s t x K) : Wit (AConv P s t x) K := by
  unfold Wit
  unfold AConv at h ⊢
  split at h
  · obtain ⟨h1, h⟩ := h
    split at h
    · rename_i k hk
      exact ⟨_, h, fun _ h => ⟨h1, h⟩⟩
    · exact h.elim
  · exact ⟨_, h.2.2, fun _ hk => ⟨h.1, h.2.1, hk⟩⟩
  · exact h.elim
theorem wit_AIface {t : TypeId} {x : AV} (h : AIface P t x K) : Wit (AIface P t x) K := ⟨_, h.2, fun _ hk => ⟨h.1, hk⟩⟩
theorem wit_AMakeFunc {f : Fn} {fi : Array Operand} {cap : List AV} (h : AMakeFunc f fi cap K) : Wit (AMakeFunc f fi cap) K := by
  unfold Wit
  unfold AMakeFunc at h ⊢
  split at h
  · exact ⟨_, h.2, fun _ hk => ⟨h.1, hk⟩⟩
  · exact h.elim
theorem wit_AExtract {x : AV} {i : Nat} (h : AExtract x i K) : Wit (AExtract x i) K := by
  unfold Wit
  unfold AExtract at h ⊢
  split at h
  · obtain ⟨a, ha, h⟩ := h
    exact ⟨a, h, fun _ hk => ⟨a, ha, hk⟩⟩
  · exact h.elim
theorem wit_AIndex {t : TypeId} {x i : AV} (h : AIndex P t x i K) : Wit (AIndex P t x i) K := by
  unfold Wit
  unfold AIndex at h ⊢
  split at h
  · obtain ⟨h1, h2, b, h3, h⟩ := h
    exact ⟨_, h, fun _ hk => ⟨h1, h2, b, h3, hk⟩⟩
  · exact h.elim
theorem wit_AField {t : TypeId} {x : AV} {j : Nat} (h : AField P t x j K) : Wit (AField P t x j) K := by
  unfold Wit
  unfold AField at h ⊢
  split at h
  · split at h
    · split at h
      · exact ⟨_, h.2, fun _ hk => ⟨h.1, hk⟩⟩
      · obtain ⟨y, hy, h⟩ := h
        exact ⟨_, h, fun _ hk => ⟨y, hy, hk⟩⟩
      · exact h.elim
    · exact h.elim
  · exact h.elim
theorem wit_AMax {x y : AV} (h : AMax x y K) : Wit (AMax x y) K := by
  unfold Wit
  unfold AMax at h ⊢
  split at h
  · exact ⟨_, h, fun _ h => h⟩
  · exact h.elim
theorem wit_AMin {x y : AV} (h : AMin x y K) : Wit (AMin x y) K := by
  unfold Wit
  unfold AMin at h ⊢
  split at h
  · exact ⟨_, h, fun _ h => h⟩
  · exact h.elim
theorem wit_APick {x y z : AV} (h : APick x y z K) : Wit (APick x y z) K := by
  unfold Wit
  unfold APick at h ⊢
  split at h
  · rename_i t
    cases t
    · exact ⟨z, h.2 rfl, fun _ hk => ⟨(fun e => by cases e), fun _ => hk⟩⟩
    · exact ⟨y, h.1 rfl, fun _ hk => ⟨fun _ => hk, (fun e => by cases e)⟩⟩
  · exact h.elim

/-! ### Operations that read -/
def SameAt (l : List Site) (hp hp' : Hp) : Prop := ∀ s, s ∈ l → hp'.get s = hp.get s
def WitR (l : List Site) (hp : Hp) (F : Hp → (AV → Prop) → Prop) (K : AV → Prop) : Prop := ∃ a, K a ∧ ∀ hp', SameAt l hp hp' → ∀ K' : AV → Prop, K' a → F hp' K'
variable {hp : Hp}
theorem wit_ALoad1 {t : TypeId} {cs : List AV} (h : ALoad1 P t cs K) : Wit (ALoad1 P t cs) K := by
  unfold Wit
  unfold ALoad1 at h ⊢
  split at h
  · split at h
    · exact ⟨_, h.2, fun _ hk => ⟨h.1, hk⟩⟩
    · exact h.elim
  · split at h
    · exact ⟨_, h, fun _ h => h⟩
    · exact h.elim
  · exact h.elim
theorem wit_ALoad {t : TypeId} {x : AV} (h : ALoad P t x hp K) : WitR (sts x) hp (fun hp K => ALoad P t x hp K) K := by
  unfold WitR
  unfold ALoad at h ⊢
  split at h
  · obtain ⟨a, h1, h2⟩ := wit_ALoad1 h
    exact ⟨a, h1, fun _ _ K' hk => h2 K' hk⟩
  · rename_i s ver off
    have hs : s ∈ sts (.ptr s ver off) := by simp [sts]
    split at h
    · rename_i n t' cs e
      obtain ⟨a, h1, h2⟩ := wit_ALoad1 h.2
      refine ⟨a, h1, fun hp' hs' K' hk => ?_⟩
      simp only [hs' s hs, e]
      exact ⟨h.1, h2 K' hk⟩
    · rename_i n t' cs e
      obtain ⟨a, h1, h2⟩ := wit_ALoad1 h.2
      refine ⟨a, h1, fun hp' hs' K' hk => ?_⟩
      simp only [hs' s hs, e]
      exact ⟨h.1, h2 K' hk⟩
    · exact h.elim
  · rename_i s ver k i off
    have hs : s ∈ sts (.ept s ver k i off) := by simp [sts]
    split at h
    · rename_i n t' k' q rows e
      obtain ⟨g1, g2, r, g3, h⟩ := h
      obtain ⟨a, h1, h2⟩ := wit_ALoad1 h
      refine ⟨a, h1, fun hp' hs' K' hk => ?_⟩
      simp only [hs' s hs, e]
      exact ⟨g1, g2, r, g3, h2 K' hk⟩
    · rename_i n k' rows e
      obtain ⟨g1, g2, r, g3, h⟩ := h
      obtain ⟨a, h1, h2⟩ := wit_ALoad1 h
      refine ⟨a, h1, fun hp' hs' K' hk => ?_⟩
      simp only [hs' s hs, e]
      exact ⟨g1, g2, r, g3, h2 K' hk⟩
    · exact h.elim
  · exact h.elim
theorem wit_AFieldAddr {t : TypeId} {x : AV} {j : Nat} (h : AFieldAddr P t x j hp K) : WitR (sts x) hp (fun hp K => AFieldAddr P t x j hp K) K := by
  unfold WitR
  unfold AFieldAddr at h ⊢
  split at h
  · split at h
    · exact ⟨_, h, fun _ _ _ h => h⟩
    · rename_i s v o
      refine ⟨_, h.2, fun hp' hs' _ hk => ⟨?_, hk⟩⟩
      rw [hs' s (by simp [sts])]; exact h.1
    · rename_i s v k i o
      refine ⟨_, h.2, fun hp' hs' _ hk => ⟨?_, hk⟩⟩
      rw [hs' s (by simp [sts])]; exact h.1
    · exact h.elim
  · exact h.elim
theorem wit_AIndexAddr {t : TypeId} {x i : AV} (h : AIndexAddr P t x i hp K) : WitR (sts x) hp (fun hp K => AIndexAddr P t x i hp K) K := by
  unfold WitR
  unfold AIndexAddr at h ⊢
  split at h
  · split at h
    · obtain ⟨h1, h2, h3, r, h4, h⟩ := h
      exact ⟨_, h, fun _ _ _ hk => ⟨h1, h2, h3, r, h4, hk⟩⟩
    · rename_i s ver k off len
      obtain ⟨h1, h2, h3, h⟩ := h
      have hs : s ∈ sts (.own s ver k off len) := by simp [sts]
      split at h
      · rename_i m t' k' q rows e
        refine ⟨_, h.2.2, fun hp' hs' _ hk => ?_⟩
        simp only [hs' s hs, e]
        exact ⟨h1, h2, h3, h.1, h.2.1, hk⟩
      · rename_i m k' rows e
        obtain ⟨g1, g2, r, g3, h⟩ := h
        refine ⟨_, h, fun hp' hs' _ hk => ?_⟩
        simp only [hs' s hs, e]
        exact ⟨h1, h2, h3, g1, g2, r, g3, hk⟩
      · exact h.elim
    · exact h.elim
  · exact h.elim
theorem wit_ABnd {x : Option AV} {d : Int} {K : Int → Prop} (h : ABnd x d K) : ∃ n, K n ∧ ∀ K' : Int → Prop, K' n → ABnd x d K' := by
  unfold ABnd at h ⊢
  split at h
  · exact ⟨_, h, fun _ h => h⟩
  · exact ⟨_, h, fun _ h => h⟩
  · exact h.elim
theorem wit_ASlice {t : TypeId} {x : AV} {lo hi : Option AV} (h : ASlice P t x lo hi hp K) : WitR (sts x) hp (fun hp K => ASlice P t x lo hi hp K) K := by
  unfold WitR
  unfold ASlice at h ⊢
  split at h
  · obtain ⟨h1, h⟩ := h
    obtain ⟨l, h, a1⟩ := wit_ABnd h
    obtain ⟨m, h, a2⟩ := wit_ABnd h
    obtain ⟨h2, h3, h4, h⟩ := h
    exact ⟨_, h, fun _ _ _ hk => ⟨h1, a1 _ (a2 _ ⟨h2, h3, h4, hk⟩)⟩⟩
  · obtain ⟨h1, h⟩ := h
    obtain ⟨l, h, a1⟩ := wit_ABnd h
    obtain ⟨m, h, a2⟩ := wit_ABnd h
    obtain ⟨h2, h3, h4, h⟩ := h
    exact ⟨_, h, fun _ _ _ hk => ⟨h1, a1 _ (a2 _ ⟨h2, h3, h4, hk⟩)⟩⟩
  · obtain ⟨h1, h⟩ := h
    obtain ⟨l, h, a1⟩ := wit_ABnd h
    obtain ⟨m, h, a2⟩ := wit_ABnd h
    obtain ⟨h2, h3, h4, h⟩ := h
    exact ⟨_, h, fun _ _ _ hk => ⟨h1, a1 _ (a2 _ ⟨h2, h3, h4, hk⟩)⟩⟩
  · rename_i s ver k off len
    obtain ⟨h0, h1, h⟩ := h
    obtain ⟨l, h, a1⟩ := wit_ABnd h
    obtain ⟨m, h, a2⟩ := wit_ABnd h
    obtain ⟨h2, h3, h4, h⟩ := h
    refine ⟨_, h, fun hp' hs' _ hk => ?_⟩
    have hs := hs' s (by simp [sts])
    simp only [hs]
    exact ⟨h0, h1, a1 _ (a2 _ ⟨h2, h3, h4, hk⟩)⟩
  · exact h.elim
theorem wit_ANilCheck {x : AV} (h : ANilCheck x hp K) : WitR (sts x) hp (fun hp K => ANilCheck x hp K) K := by
  unfold WitR
  unfold ANilCheck at h ⊢
  split at h
  · exact ⟨_, h, fun _ _ _ h => h⟩
  · rename_i s v o
    refine ⟨_, h.2, fun hp' hs' _ hk => ⟨?_, hk⟩⟩
    rw [hs' s (by simp [sts])]; exact h.1
  · rename_i s v k i o
    refine ⟨_, h.2, fun hp' hs' _ hk => ⟨?_, hk⟩⟩
    rw [hs' s (by simp [sts])]; exact h.1
  · exact ⟨_, h, fun _ _ _ h => h⟩
  · exact h.elim
theorem wit_ALen {t : TypeId} {x : AV} (h : ALen P t x hp K) : WitR (sts x) hp (fun hp K => ALen P t x hp K) K := by
  unfold WitR
  unfold ALen at h ⊢
  split at h
  · exact ⟨_, h.2, fun _ _ _ hk => ⟨h.1, hk⟩⟩
  · exact ⟨_, h.2, fun _ _ _ hk => ⟨h.1, hk⟩⟩
  · exact ⟨_, h.2, fun _ _ _ hk => ⟨h.1, hk⟩⟩
  · rename_i s ver k off len
    refine ⟨_, h.2.2, fun hp' hs' _ hk => ⟨h.1, ?_, hk⟩⟩
    rw [hs' s (by simp [sts])]; exact h.2.1
  · exact h.elim
theorem wit_ALookup {t : TypeId} {x k : AV} {ok : Bool} (h : ALookup P t x k ok hp K) : WitR (sts x) hp (fun hp K => ALookup P t x k ok hp K) K := by
  unfold WitR
  unfold ALookup at h ⊢
  split at h
  · rename_i s ver u
    have hs : s ∈ sts (.map s ver) := by simp [sts]
    split at h
    · obtain ⟨h1, h⟩ := h
      split at h
      · rename_i n mk' es e
        obtain ⟨h2, h3, h⟩ := h
        split at h
        · refine ⟨_, h, fun hp' hs' _ hk => ?_⟩
          simp only [hs' s hs, e]
          exact ⟨h1, h2, h3, hk⟩
        · exact h.elim
      · exact h.elim
    · exact h.elim
  · exact h.elim
/-- A comparison with nil whose answer is known. -/
def nilDet (P : Program) (t : TypeId) (x : AV) (hp : Hp) : Prop :=
  match tyNil P t with
  | some k => match isNil hp k x with
    | some (some _, _) => True
    | _ => False
  | none => False
theorem isNil_same {k : NK} {x : AV} {hp' : Hp} (h : SameAt (sts x) hp hp') : isNil hp' k x = isNil hp k x := by
  cases k <;> cases x <;> simp only [isNil, nilS, nilP, nilM] <;> first | rfl | (rw [h _ (by simp [sts])])
theorem wit_ANil {op : BinOp} {t : TypeId} {x : AV} (hd : nilDet P t x hp) (h : ANil P op t x hp K) : WitR (sts x) hp (fun hp K => ANil P op t x hp K) K := by
  unfold WitR
  unfold nilDet at hd
  unfold ANil at h ⊢
  split at hd
  · rename_i k e
    rw [e] at h ⊢
    split at hd
    · rename_i b p e2
      cases op <;> simp only [e2] at h <;> first
        | exact h.elim
        | exact ⟨_, h, fun hp' hs' _ hk => by simp only [isNil_same hs', e2]; exact hk⟩
    · exact hd.elim
  · exact hd.elim
theorem lf_same {x : AV} {hp' : Hp} (h : SameAt (sts x) hp hp') : x.lf hp' = x.lf hp := by
  cases x <;> simp only [AV.lf] <;> rw [h _ (by simp [sts])]
theorem cs_same {x : AV} {hp' : Hp} (h : SameAt (sts x) hp hp') : x.cs hp' = x.cs hp := by
  unfold AV.cs
  split
  · rfl
  · rw [lf_same h]
theorem mem_stsL {l : List AV} {x : AV} (h : x ∈ l) {s : Site} (hs : s ∈ sts x) : s ∈ stsL l := by
  induction l with
  | nil => simp at h
  | cons y l ih =>
    simp only [stsL, List.mem_append]
    rcases List.mem_cons.1 h with rfl | h
    · exact .inl hs
    · exact .inr (ih h)
theorem fillA_same {pl : List (Nat × Nat)} {hp' : Hp} : ∀ (cells : List AV) (parts : List (Nat × AV)), (∀ x ∈ parts, SameAt (sts x.2) hp hp') → fillA hp' pl cells parts = fillA hp pl cells parts
  | cells, [], _ => rfl
  | cells, (i, x) :: rest, h => by
    simp only [fillA, cs_same (h (i, x) (.head _))]
    split
    · split
      · split
        · exact fillA_same _ rest fun y hy => h y (.tail _ hy)
        · rfl
      · rfl
    · rfl
theorem wit_ABuild {t : TypeId} {parts : List (Nat × AV)} (h : ABuild P t parts hp K) : WitR (stsL (parts.map (·.2))) hp (fun hp K => ABuild P t parts hp K) K := by
  unfold WitR
  unfold ABuild at h ⊢
  split at h
  · split at h
    · split at h
      · rename_i z hz pl hpl cs hcs
        refine ⟨_, h, fun hp' hs' _ hk => ?_⟩
        try dsimp only
        rw [fillA_same _ parts fun x hx s hs => hs' s (mem_stsL (List.mem_map_of_mem hx) hs), hcs]
        exact hk
      · exact h.elim
    · exact h.elim
  · exact h.elim
end

/-! ### Operations that turn memory -/
def app (up : List (Site × Nat × Blk)) (hp : Hp) : Hp := up.foldl (fun h x => h.set x.1 x.2.1 x.2.2) hp
/-- Turned, at these places alone. -/
def WitW (l wl : List Site) (hp : Hp) (F : Hp → (AV → Hp → Prop) → Prop) (K : AV → Hp → Prop) : Prop :=
  ∃ a up, (∀ x ∈ up, x.1 ∈ wl) ∧ K a (app up hp) ∧ ∀ hp', SameAt l hp hp' → ∀ K' : AV → Hp → Prop, K' a (app up hp') → F hp' K'
section
variable {P : Program} {hp : Hp} {K : AV → Hp → Prop} {s : Site}
theorem wit_ANew {t : TypeId} {cs : List AV} (h : ANew t cs s hp K) : WitW [s] [s] hp (fun hp K => ANew t cs s hp K) K := by
  refine ⟨_, [(s, (hp.get s).1 + 1, .cells t cs)], by simp, h, fun hp' hs' K' hk => ?_⟩
  have := hs' s (by simp)
  try dsimp only
  unfold ANew
  rw [this]
  exact hk
theorem wit_AAlloc {t : TypeId} (h : AAlloc P t s hp K) : WitW [s] [s] hp (fun hp K => AAlloc P t s hp K) K := by
  unfold AAlloc at h ⊢
  cases e : tyZ P t with
  | none => rw [e] at h; exact h.elim
  | some z => rw [e] at h; exact wit_ANew h
theorem wit_ABox {t : TypeId} {x : AV} (h : ABox t x s hp K) : WitW (s :: sts x) [s] hp (fun hp K => ABox t x s hp K) K := by
  unfold ABox at h
  cases e : x.cs hp with
  | none => rw [e] at h; exact h.elim
  | some cs =>
    rw [e] at h
    obtain ⟨a, up, h1, h2, h3⟩ := wit_ANew h
    refine ⟨a, up, h1, h2, fun hp' hs' K' hk => ?_⟩
    try dsimp only
    unfold ABox
    rw [cs_same (hp := hp) fun q hq => hs' q (by simp [hq]), e]
    exact h3 hp' (fun q hq => hs' q (by simp only [List.mem_singleton] at hq; simp [hq])) K' hk
theorem fillR_same {k : Nat} {hp' : Hp} : ∀ (rows : List (List AV)) (parts : List (Nat × AV)), (∀ x ∈ parts, SameAt (sts x.2) hp hp') → fillR hp' k rows parts = fillR hp k rows parts
  | rows, [], _ => rfl
  | rows, (i, x) :: rest, h => by
    simp only [fillR, cs_same (h (i, x) (.head _))]
    split
    · split
      · exact fillR_same _ rest fun y hy => h y (.tail _ hy)
      · rfl
    · rfl
theorem wit_ABuildSlice {t : TypeId} {n : Nat} {parts : List (Nat × AV)} (h : ABuildSlice P t n parts s hp K) : WitW (s :: stsL (parts.map (·.2))) [s] hp (fun hp K => ABuildSlice P t n parts s hp K) K := by
  unfold ABuildSlice at h
  split at h
  · rename_i e he
    split at h
    · rename_i k hk
      split at h
      · rename_i z hz
        obtain ⟨h0, h1, h2, h⟩ := h
        split at h
        · rename_i rows hr
          refine ⟨_, [(s, (hp.get s).1 + 1, .row e k none rows)], by simp, h, fun hp' hs' K' hk' => ?_⟩
          try dsimp only
          unfold ABuildSlice
          simp only [he, hk, hz]
          refine ⟨h0, h1, h2, ?_⟩
          rw [fillR_same _ parts fun x hx q hq => hs' q (List.mem_cons_of_mem _ (mem_stsL (List.mem_map_of_mem hx) hq)), hr, hs' s (by simp)]
          exact hk'
        · exact h.elim
      · exact h.elim
    · exact h.elim
  · exact h.elim
theorem wit_AMake {t : TypeId} {l m : AV} (h : AMake P t l m s hp K) : WitW [s] [s] hp (fun hp K => AMake P t l m s hp K) K := by
  unfold AMake at h
  split at h
  · split at h
    · rename_i e he
      split at h
      · rename_i k by_ hk hby
        split at h
        · rename_i z hz
          obtain ⟨h1, h2, h3, h4, h5, h6, h⟩ := h
          refine ⟨_, [(s, (hp.get s).1 + 1, _)], by simp, h, fun hp' hs' K' hk' => ?_⟩
          try dsimp only
          unfold AMake
          simp only [he, hk, hby, hz, hs' s (by simp)]
          exact ⟨h1, h2, h3, h4, h5, h6, hk'⟩
        · exact h.elim
      · exact h.elim
    · exact h.elim
  · exact h.elim
theorem wit_AMakeMap {t : TypeId} (h : AMakeMap P t s hp K) : WitW [s] [s] hp (fun hp K => AMakeMap P t s hp K) K := by
  unfold AMakeMap at h
  split at h
  · rename_i mk el e
    refine ⟨_, [(s, (hp.get s).1 + 1, _)], by simp, h, fun hp' hs' K' hk' => ?_⟩
    try dsimp only
    unfold AMakeMap
    simp only [e, hs' s (by simp)]
    exact hk'
  · exact h.elim
theorem wit_AStore {t : TypeId} {x v : AV} {K : Hp → Prop} (h : AStore P t x v hp K) : ∃ up, (∀ q ∈ up, q.1 ∈ sts x) ∧ K (app up hp) ∧ ∀ hp', SameAt (sts x ++ sts v) hp hp' → ∀ K' : Hp → Prop, K' (app up hp') → AStore P t x v hp' K' := by
  unfold AStore at h
  split at h
  · rename_i l hl
    obtain ⟨h0, h⟩ := h
    split at h
    · rename_i s ver off
      split at h
      · rename_i n t' cs e
        refine ⟨[(s, n, _)], by simp [sts], h.2.2, fun hp' hs' K' hk => ?_⟩
        unfold AStore
        have hs := hs' s (by simp [sts])
        simp only [cs_same (hp := hp) fun q hq => hs' q (List.mem_append_right _ hq), hl, hs, e]
        exact ⟨h0, h.1, h.2.1, hk⟩
      · exact h.elim
    · rename_i s ver k i off
      split at h
      · rename_i n t' k' q rows e
        obtain ⟨h1, h2, h3, r, h4, h5, h⟩ := h
        refine ⟨[(s, n, _)], by simp [sts], h, fun hp' hs' K' hk => ?_⟩
        unfold AStore
        have hs := hs' s (by simp [sts])
        simp only [cs_same (hp := hp) fun q hq => hs' q (List.mem_append_right _ hq), hl, hs, e]
        exact ⟨h0, h1, h2, h3, r, h4, h5, hk⟩
      · exact h.elim
    · exact h.elim
  · exact h.elim
theorem wit_AMapUpd {t : TypeId} {x k v : AV} {K : Hp → Prop} (h : AMapUpd P t x k v hp K) : ∃ up, (∀ q ∈ up, q.1 ∈ sts x) ∧ K (app up hp) ∧ ∀ hp', SameAt (sts x) hp hp' → ∀ K' : Hp → Prop, K' (app up hp') → AMapUpd P t x k v hp' K' := by
  unfold AMapUpd at h
  split at h
  · rename_i s ver u q
    split at h
    · rename_i mk el hm
      obtain ⟨h0, h⟩ := h
      split at h
      · rename_i n mk' es e
        refine ⟨[(s, n, _)], by simp [sts], h.2.2, fun hp' hs' K' hk => ?_⟩
        unfold AMapUpd
        have hs := hs' s (by simp [sts])
        simp only [hm, hs, e]
        exact ⟨h0, h.1, h.2.1, hk⟩
      · exact h.elim
    · exact h.elim
  · exact h.elim
theorem rowsOf_same {k : Nat} {x : AV} {hp' : Hp} (h : SameAt (sts x) hp hp') : x.rowsOf hp' k = x.rowsOf hp k := by
  cases x with
  | own s ver k' off len => simp only [AV.rowsOf]; rw [h _ (by simp [sts])]
  | val v => unfold AV.rowsOf; split <;> simp_all
  | _ => rfl
theorem wit_AApC {e k by_ : Nat} {x y : AV} {ys : List (List AV)} (h : AApC e k by_ x s hp K ys) : WitW (s :: (sts x ++ sts y)) (s :: sts x) hp (fun hp K => AApC e k by_ x s hp K ys) K := by
  unfold AApC at h
  split at h
  · obtain ⟨h4, h5, h⟩ := h
    refine ⟨_, [(s, (hp.get s).1 + 1, _)], by simp, h, fun hp' hs' K' hk' => ?_⟩
    try dsimp only
    unfold AApC
    rw [hs' s (by simp)]
    exact ⟨h4, h5, hk'⟩
  · rename_i s1 ver k1 off len
    split at h
    · rename_i n e' k2 q rows hrow
      obtain ⟨h4, h5, h6, h7, h8, h9, h10, h⟩ := h
      have key : ∀ hp', SameAt (s :: (sts (.own s1 ver k1 off len) ++ sts y)) hp hp' → hp'.get s1 = (n, .row e' k2 q rows) ∧ hp'.get s = hp.get s := fun hp' hs' =>
        ⟨by rw [hs' s1 (by simp [sts]), hrow], hs' s (by simp)⟩
      cases q with
      | none =>
        refine ⟨_, [(s1, n + 1, _)], by simp [sts], h, fun hp' hs' K' hk' => ?_⟩
        obtain ⟨k1', k3'⟩ := key hp' hs'
        try dsimp only
        unfold AApC
        simp only [k1']
        exact ⟨h4, h5, h6, h7, h8, h9, h10, hk'⟩
      | some cp =>
        rcases Nat.lt_or_ge cp (len + ys.length) with hlt | hge
        · refine ⟨_, [(s, (hp.get s).1 + 1, _)], by simp, h.2 hlt, fun hp' hs' K' hk' => ?_⟩
          obtain ⟨k1', k3'⟩ := key hp' hs'
          try dsimp only
          unfold AApC
          simp only [k1', k3']
          exact ⟨h4, h5, h6, h7, h8, h9, h10, fun h => by omega, fun _ => hk'⟩
        · refine ⟨_, [(s1, n, _)], by simp [sts], h.1 hge, fun hp' hs' K' hk' => ?_⟩
          obtain ⟨k1', k3'⟩ := key hp' hs'
          try dsimp only
          unfold AApC
          simp only [k1', k3']
          exact ⟨h4, h5, h6, h7, h8, h9, h10, fun _ => hk', fun h => by omega⟩
    · exact h.elim
  · exact h.elim
theorem wit_AAppend {ts : Array TypeId} {x y : AV} (h : AAppend P ts x y s hp K) : WitW (s :: (sts x ++ sts y)) (s :: sts x) hp (fun hp K => AAppend P ts x y s hp K) K := by
  unfold AAppend at h
  split at h
  · rename_i t t' hts
    split at h
    · rename_i e he
      split at h
      · rename_i k by_ z hk hby hz
        obtain ⟨h1, h2, h3, h⟩ := h
        have key : ∀ {ys : List (List AV)}, AApC e k by_ x s hp K ys → (∀ hp' K', SameAt (s :: (sts x ++ sts y)) hp hp' → AApC e k by_ x s hp' K' ys → AYs P t t' z k by_ hp' y fun ys => AApC e k by_ x s hp' K' ys) → WitW (s :: (sts x ++ sts y)) (s :: sts x) hp (fun hp K => AAppend P ts x y s hp K) K := by
          intro ys h hy
          obtain ⟨a, up, w1, w2, w3⟩ := wit_AApC (y := y) h
          refine ⟨a, up, w1, w2, fun hp' hs' K' hk' => ?_⟩
          have := w3 hp' hs' K' hk'
          show AAppend P ts x y s hp' K'
          unfold AAppend
          simp only [hts, he, hk, hby, hz]
          exact ⟨h1, h2, h3, hy hp' K' hs' this⟩
        unfold AYs at h
        split at h
        · rename_i htt
          split at h
          · rename_i ys hys
            refine key h fun hp' K' hs' hk => ?_
            unfold AYs
            rw [if_pos htt, rowsOf_same (hp := hp) fun q hq => hs' q (by simp [hq]), hys]
            exact hk
          · exact h.elim
        · rename_i htt
          split at h
          · obtain ⟨g1, g2, g3, g4, h⟩ := h
            refine key h fun hp' K' hs' hk => ?_
            unfold AYs
            rw [if_neg htt]
            exact ⟨g1, g2, g3, g4, hk⟩
          · obtain ⟨g1, g2, h⟩ := h
            refine key h fun hp' K' hs' hk => ?_
            unfold AYs
            rw [if_neg htt]
            exact ⟨g1, g2, hk⟩
          · exact h.elim
      · exact h.elim
    · exact h.elim
  · exact h.elim
theorem wit_ACopy {ts : Array TypeId} {x y : AV} (h : ACopy P ts x y hp K) : WitW (sts x ++ sts y) (sts x) hp (fun hp K => ACopy P ts x y hp K) K := by
  unfold ACopy at h
  split at h
  · rename_i t t2 s ver k off len hts
    split at h
    · rename_i k0 hk0
      obtain ⟨h0, h⟩ := h
      split at h
      · rename_i n t' k2 q rows e
        obtain ⟨h1, h2, h3, h⟩ := h
        split at h
        · rename_i ys hys
          refine ⟨_, [(s, n, _)], by simp [sts], h, fun hp' hs' K' hk' => ?_⟩
          try dsimp only
          unfold ACopy
          have hs := hs' s (by simp [sts])
          simp only [hts, hk0, hs, e]
          rw [rowsOf_same (hp := hp) fun q hq => hs' q (List.mem_append_right _ hq), hys]
          exact ⟨h0, h1, h2, h3, hk'⟩
        · exact h.elim
      · exact h.elim
    · exact h.elim
  · exact h.elim
theorem wit_AClear {ts : Array TypeId} {x : AV} (h : AClear P ts x hp K) : WitW (sts x) (sts x) hp (fun hp K => AClear P ts x hp K) K := by
  unfold AClear at h
  split at h
  · rename_i t s ver k off len hts
    split at h
    · rename_i el he
      split at h
      · rename_i z hz
        obtain ⟨h0, h⟩ := h
        split at h
        · rename_i n t' k2 q rows e
          refine ⟨_, [(s, n, _)], by simp [sts], h.2.2.2, fun hp' hs' K' hk' => ?_⟩
          try dsimp only
          unfold AClear
          have hs := hs' s (by simp [sts])
          simp only [hts, he, hz, hs, e]
          exact ⟨h0, h.1, h.2.1, h.2.2.1, hk'⟩
        · exact h.elim
      · exact h.elim
    · exact h.elim
  · exact h.elim
end
end Go.Proofs.YtanbgeelphfggaaDoor.E
