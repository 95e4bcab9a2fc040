/- Walks: slices.Insert of one field. No conditions. -/
import Derived.Test.YtnmbglnenmhpiaaDoorSetP
import Derived.Laws.Externs
import Derived.Lib.Overlaps
namespace Go.Proofs.YtnmbglnenmhpiaaDoor.E
open Go
set_option linter.unusedSimpArgs false
set_option linter.unusedVariables false
set_option linter.unusedSectionVars false
set_option maxRecDepth 20000
set_option maxHeartbeats 1000000
theorem cells_shape {w : World} {b : Nat} {arr : Array Value} {t : TypeId} (h : w.heap[b]? = some (.cells arr t (0, 0))) : w.shape? b = some (t, arr.size) ∧ ∀ o, w.frozen? ⟨b, o, none⟩ = false := by
  refine ⟨by simp [World.shape?, h], fun o => ?_⟩
  simp [World.frozen?, h]
/-- Two rows of the call's own lie apart. -/
theorem ovl_run {P : Program} {w : World} {c : Cx} {hp : Hp} (hi : Inv w c hp) {s1 s2 : Site} (hne : s1 ≠ s2) {n1 n2 k o2 l2 : Nat} {T tS tR e : TypeId} {q1 q2 : Option Nat} {r1 r2 : List (List AV)} (e1 : hp.get s1 = (n1, .row T k q1 r1)) (e2 : hp.get s2 = (n2, .row T k q2 r2)) {u v : Value} (h1 : RelV w c (.own s1 n1 k 0 1) u) (hr1 : 1 ≤ r1.length) (h2 : RelV w c (.own s2 n2 k o2 l2) v) (hl2 : 0 < l2)
    (ht : P.underlying tS = some (.slice e)) (size : Nat) (hz : ∀ w, (Go.sizeOf e).run P w = .ok size w) : (Extern.SlicesOverlaps.overlaps #[tS, tS] #[tR] #[u, v]).run P w = .ok (.bool false) w := by
  obtain ⟨g1, hlv1, hk1, hkr1, m1⟩ := hi.row e1
  obtain ⟨g2, hlv2, hk2, hkr2, m2⟩ := hi.row e2
  rcases m1 with ⟨_, rfl, _⟩ | ⟨b1, cp1, vs1, rest1, hl1, _, _, hb1, hlen1, _, hv1⟩
  · simp at hr1
  rcases m2 with ⟨hn2, rfl, _⟩ | ⟨b2, cp2, vs2, rest2, hq2, _, _, hb2, hlen2, _, hv2⟩
  · rcases own_addr hi g2 h2 with ⟨_, _, _, h⟩ | ⟨b, cp, a, h, _⟩
    · omega
    · rw [hn2] at h; cases h
  rcases own_addr hi g1 h1 with ⟨h, _⟩ | ⟨b, cp, a, h, rfl, _, ha⟩
  · rw [hl1] at h; cases h
  rcases own_addr hi g2 h2 with ⟨h', _⟩ | ⟨b', cp', a', h', rfl, hle, ha'⟩
  · rw [hq2] at h'; cases h'
  rw [hl1] at h
  cases h
  rw [hq2] at h'
  cases h'
  have ha := ha (by omega)
  have ha' := ha' hl2
  subst ha
  subst ha'
  obtain ⟨p1, p2⟩ := cells_shape hb1
  obtain ⟨p3, _⟩ := cells_shape hb2
  have hbne : b1 ≠ b2 := fun e => hne (hi.inj s1 s2 b1 cp1 cp2 hlv1 hlv2 hl1 (e ▸ hq2))
  have hsz : (vs2 ++ rest2).toArray.size ≠ 0 := by
    rw [List.size_toArray, hlen2]
    have : 0 < cp2 * k := Nat.mul_pos (by omega) hk2
    omega
  exact Lib.run_overlaps_apart w tS tR e ht size hz ⟨b1, 0 * k, none⟩ ⟨b2, o2 * k, none⟩ 1 (cp1 - 0) l2 (cp2 - o2) hbne T T _ _ p1 p3 hsz (p2 _) (p2 _)
theorem insFd_ok (l : List Fd) (f : Fd) (i : Nat) (hl : l.length ≤ 1000000) (hi : i ≤ l.length) : OkH Tryd.prog 28 [.own (.e 0) 0 2 0 l.length, I i, .own (.e 1) 0 2 0 1] [.row 38 2 none (l.map fdC), .row 38 2 none [fdC f]] (fds (l.take i ++ [f] ++ l.drop i)) [(0, .gone), (0, .row 38 2 none [fdC f])] := by
  refine OkH.of_wp (rs := [.tmp 6]) (n := 95) [] Tryd.func28 rfl rfl rfl (by simp) fo (by kernel_rfl) ?_
  by_cases h : i = l.length
  · have h' : (i : Int) = l.length := by omega
    subst h
    simp (decide := true) (maxSteps := 4000000) -implicitDefEqProofs only [evs, tabs, puts, siteD, gget, tget, tset, initT, dstAt, ev, evC, plain, Hp.get, Hp.set, bnd, isCells, isRow, SubA, SubC, Sub, SubL, CvA, Cv, dis, ordB, ite_self, exists_eq', List.mem_cons, List.not_mem_nil, Site.m.injEq, bne_self_eq_false, beq_iff_eq, bne_iff_ne, ↓reduceIte, Int.reduceAdd, Int.reduceSub, Int.reduceToNat, Int.reduceNeg, Nat.reduceAdd, Nat.reduceMul, Nat.reduceSub, exists_eq_left', exists_eq_left, implies_true, forall_const, Site.l.injEq, Site.e.injEq, reduceCtorEq, beq_self_eq_true, ne_eq, tk1, Nat.le_refl, or_true]
    refine ⟨by omega, ?_⟩
    have e : l.take l.length ++ [f] ++ l.drop l.length = l ++ [f] := by simp
    have e2 : List.take (l.length + 1) (List.map fdC l ++ [fdC f]) = List.map fdC (l ++ [f]) := by rw [List.map_append]; exact List.take_of_length_le (by simp)
    rw [e]
    exact ⟨by omega, congrArg (AV.list 2) e2⟩
  · have h' : ¬ (i : Int) = l.length := by omega
    have hi2 : i < l.length := by omega
    have w1 : IntKind.i64.wrap ((l.length : Int) + 1) = ((l.length + 1 : Nat) : Int) := by rw [wr_i64 (by omega) (by omega)]; omega
    have w1' : IntKind.i64.wrap ((l.length : Int) + ((1 : Nat) : Int)) = ((l.length + 1 : Nat) : Int) := w1
    have w2 : IntKind.i64.wrap (((l.length + 1 : Nat) : Int) - i) = ((l.length + 1 - i : Nat) : Int) := by rw [wr_i64 (by omega) (by omega)]; omega
    have w3 : IntKind.i64.wrap ((i : Int) + ((1 : Nat) : Int)) = ((i + 1 : Nat) : Int) := wr_add1 (n := l.length) (by omega) (by omega)
    have n1 : (l.take i).length = i := by rw [List.length_take]; omega
    have hsum : i + (l.length + 1 - i) = l.length + 1 := by omega
    simp (decide := true) (maxSteps := 4000000) -implicitDefEqProofs only [evs, tabs, puts, siteD, gget, tget, tset, initT, dstAt, ev, evC, plain, Hp.get, Hp.set, bnd, isCells, isRow, SubA, SubC, Sub, SubL, CvA, Cv, dis, ordB, ite_self, exists_eq', List.mem_cons, List.not_mem_nil, Site.m.injEq, bne_self_eq_false, beq_iff_eq, bne_iff_ne, ↓reduceIte, Int.reduceAdd, Int.reduceSub, Int.reduceToNat, Int.reduceNeg, Nat.reduceAdd, Nat.reduceMul, Nat.reduceSub, exists_eq_left', exists_eq_left, implies_true, forall_const, Site.l.injEq, Site.e.injEq, reduceCtorEq, beq_self_eq_true, ne_eq, h', w1', w2, Nat.sub_zero, or_true, List.length_replicate, hsum]
    refine ⟨by omega, fun cp hc1 hc2 hc3 => ?_⟩
    have hR0 : ∃ R : List (List AV), List.map fdC l ++ List.replicate (cp - l.length) [AV.junk, AV.junk] = R := ⟨_, rfl⟩
    obtain ⟨R, hR⟩ := hR0
    have hRl : R.length = cp := by rw [← hR, List.length_append, List.length_map, List.length_replicate]; omega
    have hR1 : List.take i R = List.map fdC (l.take i) := by rw [← hR, List.take_append_of_le_length (by rw [List.length_map]; omega), List.map_take]
    have hR2 : List.take (l.length - i) (List.drop i R) = List.map fdC (l.drop i) := by
      rw [← hR, List.drop_append_of_le_length (by rw [List.length_map]; omega), List.take_append_of_le_length (by rw [List.length_drop, List.length_map]; exact Nat.le_refl _), ← List.map_drop]
      exact List.take_of_length_le (by simp)
    rw [hR]
    clear hR
    have y6 : i + (l.length - i) ≤ l.length + (cp - l.length) := by omega
    have y9 : i + (l.length + 1 - i) ≤ cp ↔ l.length + 1 ≤ cp := by omega
    have e1 : ∀ T : List (List AV), List.take (l.length + 1) (List.map fdC (l.take i) ++ [fdC f] ++ (List.map fdC (l.drop i) ++ T)) = List.map fdC (l.take i ++ [f] ++ l.drop i) := fun T => by
      rw [← List.append_assoc, List.take_left' (by simp only [List.length_append, List.length_map, n1, List.length_singleton, List.length_drop]; omega)]
      rw [List.map_append, List.map_append]
      rfl
    by_cases hr : l.length + 1 ≤ cp
    · have hr' : ¬ (((l.length + 1 : Nat) : Int) > (cp : Int)) := by omega
      obtain ⟨Y, hY⟩ : ∃ Y, List.take (l.length + 1 - i) (List.drop i R) = Y := ⟨_, rfl⟩
      have hYl : Y.length = l.length + 1 - i := by rw [← hY, List.length_take, List.length_drop, hRl]; omega
      have hY1 : List.take (l.length - i) Y = List.map fdC (l.drop i) := by rw [← hY, List.take_take, Nat.min_eq_left (by omega)]; exact hR2
      have t1 : (List.take (i + 1) R).length = i + 1 := by rw [List.length_take, hRl]; omega
      have t0 : List.take i (List.take (i + 1) R) = List.map fdC (l.take i) := by rw [List.take_take, Nat.min_eq_left (by omega)]; exact hR1
      have y4 : l.length + 1 - (i + 1) = l.length - i := by omega
      have x3 : List.take (l.length + 1 - i) [fdC f] = [fdC f] := List.take_of_length_le (by simp; omega)
      have x4 : min 1 (l.length + 1 - i) = 1 := by omega
      have y7 : min (l.length + 1 - i) (l.length - i) = l.length - i := by omega
      have q1 : i + (l.length + 1 - i) ≤ cp := by omega
      have q2 : i + 1 + (l.length - i) = l.length + 1 := by omega
      have hml : (List.map fdC (l.drop i)).length = l.length - i := by rw [List.length_map, List.length_drop]
      obtain ⟨T, hT⟩ : ∃ T, List.drop (l.length + 1) R = T := ⟨_, rfl⟩
      have hTl : T.length = cp - (l.length + 1) := by rw [← hT, List.length_drop, hRl]
      have u1 : List.take i (List.take (i + 1) R ++ List.map fdC (l.drop i) ++ T) = List.map fdC (l.take i) := by
        rw [List.append_assoc, List.take_append_of_le_length (by omega), t0]
      have u2 : List.drop (i + 1) (List.take (i + 1) R ++ List.map fdC (l.drop i) ++ T) = List.map fdC (l.drop i) ++ T := by
        rw [List.append_assoc, List.drop_left' t1]
      simp (decide := true) (maxSteps := 4000000) -implicitDefEqProofs only [evs, tabs, puts, siteD, gget, tget, tset, initT, dstAt, ev, evC, plain, Hp.get, Hp.set, bnd, isCells, isRow, SubA, SubC, Sub, SubL, CvA, Cv, dis, ordB, ite_self, exists_eq', List.mem_cons, List.not_mem_nil, Site.m.injEq, bne_self_eq_false, beq_iff_eq, bne_iff_ne, ↓reduceIte, Int.reduceAdd, Int.reduceSub, Int.reduceToNat, Int.reduceNeg, Nat.reduceAdd, Nat.reduceMul, Nat.reduceSub, exists_eq_left', exists_eq_left, implies_true, forall_const, Site.l.injEq, Site.e.injEq, reduceCtorEq, beq_self_eq_true, ne_eq, hr', Nat.sub_zero, or_true, w1', w3, hRl]
      refine ⟨.inr (by omega), by omega, .inl (by omega), ?_⟩
      refine ⟨.bool false, rfl, fun hp' hag w c vs hi hv => ?_, ?_⟩
      · have g0 := hag (.e 0) (by simp only [stsL, sts, rch, List.map_cons, List.flatMap_cons]; simp [Site.key])
        have g1 := hag (.e 1) (by simp only [stsL, sts, rch, List.map_cons, List.flatMap_cons]; simp [Site.key])
        simp only [RelL] at hv
        obtain ⟨u, us, rfl, hu, v, us2, rfl, hv2, rfl⟩ := hv
        have hrun := ovl_run (P := Tryd.prog) (tS := 31) (tR := 4) hi (s1 := .e 1) (s2 := .e 0) (by simp) g1 g0 hu (by simp) hv2 (by omega) Tryd.underlying31 2 (fun w => Tryd.sizeOf38 w)
        rw [run_callFunc_extern Tryd.func40 (by kernel_rfl) (by kernel_rfl) (by kernel_rfl) (e := Extern.SlicesOverlaps.overlaps #[31, 31] #[4]) (by kernel_rfl), hrun]
        rfl
      · have q3 : l.length + 1 ≤ i + 1 + (l.length - i + (cp - (l.length + 1))) := by omega
        simp (decide := true) (maxSteps := 4000000) -implicitDefEqProofs only [evs, tabs, puts, siteD, gget, tget, tset, initT, dstAt, ev, evC, plain, Hp.get, Hp.set, bnd, isCells, isRow, SubA, SubC, Sub, SubL, CvA, Cv, dis, ordB, ite_self, exists_eq', List.mem_cons, List.not_mem_nil, Site.m.injEq, bne_self_eq_false, beq_iff_eq, bne_iff_ne, ↓reduceIte, Int.reduceAdd, Int.reduceSub, Int.reduceToNat, Int.reduceNeg, Nat.reduceAdd, Nat.reduceMul, Nat.reduceSub, exists_eq_left', exists_eq_left, implies_true, forall_const, Site.l.injEq, Site.e.injEq, reduceCtorEq, beq_self_eq_true, ne_eq, w3, hRl, hY, hYl, hY1, t1, y4, x3, x4, y7, q1, q2, q3, hml, hT, hTl, u1, u2, n1, e1]
        exact ⟨by omega, .inl (by omega), by omega, .inl (by omega), by omega, by omega, .inl (by omega), by omega⟩
    · have hr' : (((l.length + 1 : Nat) : Int) > (cp : Int)) := by omega
      have x2 : List.take i (List.map fdC (l.take i) ++ List.replicate (l.length + 1 - i) [S ⟨#[]⟩, S ⟨#[]⟩]) = List.map fdC (l.take i) := List.take_left' (by rw [List.length_map, n1])
      have x3 : List.take (l.length + 1 - i) [fdC f] = [fdC f] := List.take_of_length_le (by simp; omega)
      have x4 : min 1 (l.length + 1 - i) = 1 := by omega
      have x5 : List.drop (i + 1) (List.map fdC (l.take i) ++ List.replicate (l.length + 1 - i) [S ⟨#[]⟩, S ⟨#[]⟩]) = List.replicate (l.length - i) [S ⟨#[]⟩, S ⟨#[]⟩] := by
        rw [List.drop_append, List.drop_eq_nil_of_le (by rw [List.length_map, n1]; omega), List.nil_append, List.length_map, n1, List.drop_replicate]
        congr 1
        omega
      have y2 : List.take (i + 1) (List.map fdC (l.take i) ++ [fdC f] ++ List.replicate (l.length - i) [S ⟨#[]⟩, S ⟨#[]⟩]) = List.map fdC (l.take i) ++ [fdC f] := List.take_left' (by simp only [List.length_append, List.length_map, n1, List.length_singleton])
      have y4 : l.length + 1 - (i + 1) = l.length - i := by omega
      have y5 : List.take (l.length - i) (List.map fdC (l.drop i)) = List.map fdC (l.drop i) := List.take_of_length_le (by simp)
      have y7 : min (l.length - i) (l.length - i) = l.length - i := Nat.min_self _
      have y8 : List.drop (i + 1 + (l.length - i)) (List.map fdC (l.take i) ++ [fdC f] ++ List.replicate (l.length - i) [S ⟨#[]⟩, S ⟨#[]⟩]) = [] := List.drop_eq_nil_of_le (by simp only [List.length_append, List.length_map, n1, List.length_singleton, List.length_replicate]; omega)
      simp (decide := true) (maxSteps := 4000000) -implicitDefEqProofs only [evs, tabs, puts, siteD, gget, tget, tset, initT, dstAt, ev, evC, plain, Hp.get, Hp.set, bnd, isCells, isRow, SubA, SubC, Sub, SubL, CvA, Cv, dis, ordB, ite_self, exists_eq', List.mem_cons, List.not_mem_nil, Site.m.injEq, bne_self_eq_false, beq_iff_eq, bne_iff_ne, ↓reduceIte, Int.reduceAdd, Int.reduceSub, Int.reduceToNat, Int.reduceNeg, Nat.reduceAdd, Nat.reduceMul, Nat.reduceSub, exists_eq_left', exists_eq_left, implies_true, forall_const, Site.l.injEq, Site.e.injEq, reduceCtorEq, beq_self_eq_true, ne_eq, hr', hr, Nat.sub_zero, or_true, w1', w3, hR1, x2, x3, x4, x5, n1, hsum, hRl]
      refine ⟨.inl (by omega), by omega, by omega, by omega, by omega, fun _ => ⟨by omega, by omega, .inl (by omega), by omega, .inl (by omega), ?_⟩⟩
      have e2 : List.take (l.length + 1) (List.map fdC (l.take i) ++ [fdC f] ++ List.map fdC (l.drop i)) = List.map fdC (l.take i ++ [f] ++ l.drop i) := by
        have := e1 []
        rwa [List.append_nil] at this
      have q3 : l.length + 1 ≤ i + 1 + (l.length - i) := by omega
      have y10 : i + (l.length - i) ≤ cp := by omega
      simp (decide := true) (maxSteps := 4000000) -implicitDefEqProofs only [evs, tabs, puts, siteD, gget, tget, tset, initT, dstAt, ev, evC, plain, Hp.get, Hp.set, bnd, isCells, isRow, SubA, SubC, Sub, SubL, CvA, Cv, dis, ordB, ite_self, exists_eq', List.mem_cons, List.not_mem_nil, Site.m.injEq, bne_self_eq_false, beq_iff_eq, bne_iff_ne, ↓reduceIte, Int.reduceAdd, Int.reduceSub, Int.reduceToNat, Int.reduceNeg, Nat.reduceAdd, Nat.reduceMul, Nat.reduceSub, exists_eq_left', exists_eq_left, implies_true, forall_const, Site.l.injEq, Site.e.injEq, reduceCtorEq, beq_self_eq_true, ne_eq, hR2, hRl, y2, y4, y5, y6, y7, y8, y10, e2, q3, List.length_drop, n1]
      rw [List.length_replicate]
      exact Nat.le_refl _
end Go.Proofs.YtnmbglnenmhpiaaDoor.E
