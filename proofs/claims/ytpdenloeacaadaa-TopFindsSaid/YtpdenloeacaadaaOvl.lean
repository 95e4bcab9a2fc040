/- Two rows of the call's own lie apart. No conditions. -/
import Derived.Test.YtpdenloeacaadaaGBa
import Derived.Laws.Externs
import Derived.Lib.Overlaps
namespace Go.Proofs.Ytpdenloeacaadaa.E
open Go
set_option linter.unusedSimpArgs false
set_option linter.unusedVariables false
set_option linter.unusedSectionVars false
set_option maxRecDepth 20000
theorem cells_shape {w : World} {b : Nat} {arr : Array Value} {t : TypeId} (h : w.heap[b]? = some (.cells arr t (0, 0))) : w.shape? b = some (t, arr.size) ∧ ∀ o, w.frozen? ⟨b, o, none⟩ = false := by
 refine ⟨by simp [World.shape?, h], fun o => ?_⟩
 simp [World.frozen?, h]
/-- Two rows of the call's own lie apart. -/
theorem ovl_run {P : Program} {w : World} {c : Cx} {hp : Hp} (hi : Inv w c hp) {s1 s2 : Site} (hne : s1 ≠ s2) {n1 n2 k o2 l2 : Nat} {T tS tR e : TypeId} {q1 q2 : Option Nat} {r1 r2 : List (List AV)} (e1 : hp.get s1 = (n1, .row T k q1 r1)) (e2 : hp.get s2 = (n2, .row T k q2 r2)) {u v : Value} (h1 : RelV w c (.own s1 n1 k 0 1) u) (hr1 : 1 ≤ r1.length) (h2 : RelV w c (.own s2 n2 k o2 l2) v) (hl2 : 0 < l2)
  (ht : P.underlying tS = some (.slice e)) (size : Nat) (hz : ∀ w, (Go.sizeOf e).run P w = .ok size w) : (Extern.SlicesOverlaps.overlaps #[tS, tS] #[tR] #[u, v]).run P w = .ok (.bool false) w := by
 obtain ⟨g1, hlv1, hk1, hkr1, m1⟩ := hi.row e1
 obtain ⟨g2, hlv2, hk2, hkr2, m2⟩ := hi.row e2
 rcases m1 with ⟨_, rfl, _⟩ | ⟨b1, cp1, vs1, rest1, hl1, _, _, hb1, hlen1, _, hv1⟩
 ·simp at hr1
 rcases m2 with ⟨hn2, rfl, _⟩ | ⟨b2, cp2, vs2, rest2, hq2, _, _, hb2, hlen2, _, hv2⟩
 ·rcases own_addr hi g2 h2 with ⟨_, _, _, h⟩ | ⟨b, cp, a, h, _⟩
  ·omega
  ·rw [hn2] at h; cases h
 rcases own_addr hi g1 h1 with ⟨h, _⟩ | ⟨b, cp, a, h, rfl, _, ha⟩
 ·rw [hl1] at h; cases h
 rcases own_addr hi g2 h2 with ⟨h', _⟩ | ⟨b', cp', a', h', rfl, hle, ha'⟩
 ·rw [hq2] at h'; cases h'
 rw [hl1] at h
 cases h
 rw [hq2] at h'
 cases h'
 have ha := ha (by omega)
 have ha' := ha' hl2
 subst ha
 subst ha'
 obtain ⟨p1, p2⟩ := cells_shape hb1
 obtain ⟨p3, _⟩ := cells_shape hb2
 have hbne : b1 ≠ b2 := fun e => hne (hi.inj s1 s2 b1 hlv1 hlv2 (.inl ⟨cp1, hl1⟩) (.inl ⟨cp2, e ▸ hq2⟩))
 have hsz : (vs2 ++ rest2).toArray.size ≠ 0 := by
  rw [List.size_toArray, hlen2]
  have : 0 < cp2 * k := Nat.mul_pos (by omega) hk2
  omega
 exact Lib.run_overlaps_apart w tS tR e ht size hz ⟨b1, 0 * k, none⟩ ⟨b2, o2 * k, none⟩ 1 (cp1 - 0) l2 (cp2 - o2) hbne T T _ _ p1 p3 hsz (p2 _) (p2 _)
end Go.Proofs.Ytpdenloeacaadaa.E
