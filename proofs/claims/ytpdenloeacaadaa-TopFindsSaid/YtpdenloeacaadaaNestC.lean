/- Contracts over lists of names that lie in blocks of a place's own. No conditions. -/
import Derived.Test.YtpdenloeacaadaaNestB
import Derived.Test.YtpdenloeacaadaaInsE
import Derived.Test.YtpdenloeacaadaaDelE
import Derived.Test.YtpdenloeacaadaaDelS
namespace Go.Proofs.Ytpdenloeacaadaa.E
open Go
set_option linter.unusedSimpArgs false
set_option linter.unusedVariables false
set_option linter.unusedSectionVars false
set_option maxRecDepth 20000
set_option maxHeartbeats 1000000
/-- Insert, at one place under a new number. -/
theorem OkO.one {P : Program} {f : FuncId} {args : List AV} {T : TypeId} {k n : Nat} {rows R : List (List AV)} {Bk : Blk} (hB : noRef Bk) {outs : Nat → AV × List (Nat × Blk)} (h : OkO P f args [.row T k none rows, Bk] outs)
  (h0 : outs 0 = (.own (.e 0) 1 k 0 n, [(1, .row T k none R), (0, Bk)])) (h1 : outs 1 = (.own (.e 0) 0 k 0 n, [(0, .row T k none R), (0, Bk)])) (h2 : ∀ j, outs (j + 2) = (.own (.e 2) 1 k 0 n, [(0, .gone), (0, Bk), (1, .row T k none R)])) :
  OkH P f args [.row T k none rows, Bk] (.own (.e 0) 1 k 0 n) [(1, .row T k none R), (0, Bk)] := by
 intro w c vs hi hv
 have hc : c.cur (.e 0) = 0 := by rw [hi.cur]; rfl
 refine (h w c vs hi hv).mono ?_
 rintro e w' ⟨i, v, c', rfl, hE, hI, hr⟩
 match i with
 | 0 => rw [h0] at hI hr; exact ⟨v, c', rfl, hE, hI, hr⟩
 | 1 =>
  rw [h1] at hI hr
  obtain ⟨c3, g1, g2, g3⟩ := own_bump (L := [(0, Bk)]) hE hc hI (fun p hp => by simp only [List.mem_singleton] at hp; subst hp; exact hB) hr
  exact ⟨v, c3, rfl, g1, g2, g3⟩
 | j + 2 =>
  rw [h2] at hI hr
  obtain ⟨c3, g1, g2, g3⟩ := own_move (m := 2) (L := [(0, Bk)]) (X := [(0, .row T k none rows), (0, Bk)]) hE hi rfl rfl hc hI (fun p hp => by simp only [List.mem_singleton] at hp; subst hp; exact hB) hr
  exact ⟨v, c3, rfl, g1, g2, g3⟩
theorem insS_ok (l : List ByteArray) (f : ByteArray) (i : Nat) (hl : l.length ≤ 1000000) (hi : i ≤ l.length) : OkH Try.prog 62 [.own (.e 0) 0 1 0 l.length, I i, .own (.e 1) 0 1 0 1] [.row 9 1 none (l.map ssC), .row 9 1 none [ssC f]] (.own (.e 0) 1 1 0 (l.length + 1)) [(1, .row 9 1 none ((l.take i ++ [f] ++ l.drop i).map ssC)), (0, .row 9 1 none [ssC f])] :=
 OkO.one rfl (insSO_ok l f i hl hi) rfl rfl fun _ => rfl
theorem insE_ok (l : List RE) (f : RE) (i : Nat) (hl : l.length ≤ 1000000) (hi : i ≤ l.length) : OkH Try.prog 61 [.own (.e 0) 0 3 0 l.length, I i, .own (.e 1) 0 3 0 1] [.row 104 3 none (l.map entC), .row 104 3 none [entC f]] (.own (.e 0) 1 3 0 (l.length + 1)) [(1, .row 104 3 none ((l.take i ++ [f] ++ l.drop i).map entC)), (0, .row 104 3 none [entC f])] :=
 OkO.one rfl (insEO_ok l f i hl hi) rfl rfl fun _ => rfl
theorem row_x {w : World} {c : Cx} {s : Site} {T : TypeId} {k : Nat} {q : Option Nat} {R Z : List (List AV)} (h : BlkOk w c s (.row T k q (R ++ Z))) : BlkOk w c s (.rowx T k R.flatten) := by
 simp only [BlkOk] at h ⊢
 obtain ⟨h1, h2, h3, h4⟩ := h
 refine ⟨h1, h2, ?_⟩
 split at h4
 ·have := (List.append_eq_nil_iff.1 h4.1).1
  rw [this]; rfl
 ·obtain ⟨_, h5, vs, rest, h6, h7, h8, h9⟩ := h4
  rw [List.flatten_append] at h9
  obtain ⟨v1, v2, rfl, g1, _⟩ := h9.split
  exact ⟨h5, v1, v2 ++ rest, by rw [← List.append_assoc]; exact h6, by rw [← List.append_assoc]; exact h7, by rw [← List.append_assoc]; exact h8, RelL.of_RVL _ _ g1⟩
theorem swap_hd {w : World} {c : Cx} {v : Nat} {b b' : Blk} {L : List (Nat × Blk)} (h : Inv w c (hpE 0 ((v, b) :: L))) (hb : BlkOk w c (.e 0) b') : Inv w c (hpE 0 ((v, b') :: L)) := h.swapS (s := .e 0) rfl hb
/-- A contract over rows of bare values, told of their cells. -/
theorem OkH.bare {P : Program} {f : FuncId} {args : List AV} {T : TypeId} {k v : Nat} {q : Option Nat} {rows R Z : List (List AV)} {hs : List Blk} {r : AV} {hs' : List (Nat × Blk)} (hk : ∀ x ∈ rows, x.length = k) (hf : rows.flatten.all AV.free = true) (h : OkH P f args (.row T k none rows :: hs) r ((v, .row T k q (R ++ Z)) :: hs')) :
  OkH P f args (.rowx T k rows.flatten :: hs) r ((v, .rowx T k R.flatten) :: hs') := by
 intro w c vs hi hv
 have h0 := hi.ok (.e 0)
 have hs0 : SubB (.rowx T k rows.flatten) (.row T k none rows) := ⟨rfl, rfl, rfl, rfl, hk, hf⟩
 refine (h w c vs (swap_hd hi (hs0.ok h0)) hv).mono ?_
 rintro e w' ⟨x, c', rfl, hE, hI, hr⟩
 exact ⟨x, c', rfl, hE, swap_hd hI (row_x (hI.ok (.e 0))), hr⟩
theorem rowsN_free (l : List PE) : (cellsN l).all AV.free = true := by
 induction l with
 | nil => rfl
 | cons p l ih => rw [cellsN_cons, List.all_append, ih]; rfl
/-- Reads of a list of names that lies in a place's own block. -/
theorem OkH.read {P : Program} {f : FuncId} {p : PE} {l : List PE} (hp : p ∈ l) {xs ys : List AV} {r : AV} (hr : r.flat = true) (hx : (xs ++ ys).all AV.free = true) (h : Ok P f (xs ++ strs p.2 :: ys) r) : OkH P f (xs ++ .val (.slice p.1.a p.1.n p.1.c) :: ys) [.sem (NamesR l)] r [(0, .sem (NamesR l))] := by
 intro w c vs hi hv
 have hg : (hpE 0 ([Blk.sem (NamesR l)].map fun b => (0, b))).get (.e 0) = (0, .sem (NamesR l)) := rfl
 obtain ⟨_, hlv, hloc, hok, _⟩ := hi.sem hg
 have hpok := hok p hp
 let T : Nat → Prop := fun b => E.still w c b ∨ c.ex (.e 0) b
 have hT : ∀ b, T b → b < w.heap.size := fun b hb => by
  rcases hb with hb | hb
  ·exact hb.1
  ·exact hi.lt b ⟨.e 0, hlv, .inr hb⟩
 obtain ⟨v1, v2, rfl, g1, g2⟩ := RelL.split hv
 simp only [RelL, RelV] at g2
 obtain ⟨_, v3, rfl, ⟨rfl, _⟩, g2⟩ := g2
 have lf : ∀ (zs : List AV) (us : List Value), zs.all AV.free = true → RelL w c zs us → RVL w T zs us := fun zs us hz h => RVL.mono (fun b hb => ⟨.inl hb, rfl⟩) _ _ (h.rvl hz)
 rw [List.all_append, Bool.and_eq_true] at hx
 have hnm : RV w T (strs p.2) (.slice p.1.a p.1.n p.1.c) := by
  unfold nmOk at hpok
  simp only [RV, List.length_map]
  rw [hpok.1]
  cases ha : p.1.a with
  | none =>
   rw [ha] at hpok
   refine ⟨none, p.1.c, rfl, by omega, fun _ => hpok.2.2, .inl ?_⟩
   have : p.2 = [] := List.eq_nil_of_length_eq_zero (by omega)
   rw [this]; rfl
  | some ad =>
   rw [ha] at hpok
   obtain ⟨h1, h2, h3, h4, h5, h6, rest, h7, h8, h9⟩ := hpok
   refine ⟨some ad, p.1.c, rfl, by omega, (fun e => by cases e), .inr ⟨ad.block, 0, by cases ad; simp only at h2 h3; rw [h2, h3], .inr h4, ?_⟩⟩
   refine RVRows.of_flat (ssC_len _) (RVAt.of_vals (vs := p.2.map Value.string) (by rw [flat_ssC]; exact str_rvl _) (str_one _) fun i v hv => ?_)
   rw [Nat.zero_add, cell_block h7, List.getElem?_append_left (lt_of_get hv)]
   exact hv
 refine (h w T _ hT (hi.glob.mono fun b hb => ⟨.inl hb, rfl⟩) (RVL.append (lf _ _ hx.1 g1) (by simp only [RVL]; exact ⟨_, _, rfl, hnm, lf _ _ hx.2 g2⟩))).mono ?_
 rintro e w' ⟨v, rfl, hb, hrv⟩
 obtain ⟨hE, hI⟩ := below_ext hi hb
 exact ⟨v, c, rfl, hE, hI, flat_rel hr hrv⟩
end Go.Proofs.Ytpdenloeacaadaa.E
