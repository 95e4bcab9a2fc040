/- Walks: the text of a record. No conditions. -/
import Derived.Test.YtonolfpnidaflaaGreatDoorRecT
import Derived.Test.YtonolfpnidaflaaGreatDoorStrC
namespace Go.Proofs.YtonolfpnidaflaaGreatDoor.E
open Go
set_option linter.unusedSimpArgs false
set_option linter.unusedVariables false
set_option linter.unusedSectionVars false
set_option maxRecDepth 20000
set_option maxHeartbeats 1000000
theorem ba_lit (a : List UInt8) : (⟨a.toArray⟩ : ByteArray) = bs a := rfl
theorem fdL_eq (f : Fd) : f.key ++ ⟨#[61]⟩ ++ f.val = bs (fdL f) := ba_ext (by rw [ba_app, ba_app]; simp [fdL, bs])
theorem ba_size (a b : ByteArray) : (a ++ b).size = a.size + b.size := ByteArray.size_append
theorem joinC_len {c : UInt8} {k : Nat} : ∀ {l : List (List UInt8)}, (∀ x ∈ l, x.length ≤ k) → (joinC c l).length ≤ l.length * (k + 1)
 | [], _ => by simp [joinC]
 | [x], h => by have := h x (by simp); simp [joinC]; omega
 | x :: y :: r, h => by
  have h1 := h x (by simp)
  have h2 := joinC_len (c := c) (l := y :: r) fun z hz => h z (List.mem_cons_of_mem _ hz)
  simp only [joinC, List.length_append, List.length_cons] at *
  rw [Nat.add_mul (r.length + 1)]
  omega
theorem id_size {s : ByteArray} (h : idOk s = true) : s.size ≤ 8 := by
 simp only [idOk, Bool.and_eq_true, decide_eq_true_eq] at h
 exact h.1.2
theorem val_size {s : ByteArray} (h : valOk s = true) : s.size ≤ 12 := by
 simp only [valOk, Bool.and_eq_true, decide_eq_true_eq] at h
 exact h.1
theorem recL_lens {r : Rc} (h : GoodRc r) : r.id.size ≤ 8 ∧ (Lib.itoa r.cats).length ≤ 9 ∧ (joinC 44 (r.fields.map fdL)).length ≤ 132 ∧ (joinC 44 (r.refs.map fun s => s.data.toList)).length ≤ 36 := by
 refine ⟨id_size h.id, itoa_len (by have := h.cats; omega), ?_, ?_⟩
 ·have := joinC_len (c := 44) (k := 21) (l := r.fields.map fdL) fun x hx => by
   obtain ⟨f, hf, rfl⟩ := List.mem_map.1 hx
   have hfo := fOk_mem h.fs hf
   have h1 := id_size hfo.1
   have h2 := val_size hfo.2
   have q1 := size_eq f.key
   have q2 := size_eq f.val
   simp only [fdL, List.length_append, List.length_cons]
   omega
  have hn := h.nf
  rw [List.length_map] at this
  omega
 ·have := joinC_len (c := 44) (k := 8) (l := r.refs.map fun s => s.data.toList) fun x hx => by
   obtain ⟨s, hs, rfl⟩ := List.mem_map.1 hx
   have h1 := id_size (rOk_mem h.rs hs)
   rw [size_eq] at h1
   exact h1
  have hn := h.nr
  rw [List.length_map] at this
  omega
theorem wrL_len {r : Rc} (h : chkRec r = 0) : (wrL r).length ≤ 200 := by
 obtain ⟨z1, z2, z3, z4⟩ := recL_lens ((chkRec_good r).1 h)
 rw [wrL, if_pos h, recL]
 have := size_eq r.id
 simp only [List.length_append, List.length_cons]
 omega
theorem recSplit_ok (s : ByteArray) (hs : s.size < 4294967281) : Ok Tryz.prog 59 [S s] (.list 1 (((splitE 44 s.data.toList).map bs).map fun s => [S s])) := by
 refine Ok.of_wp (rs := [.tmp 2]) (n := 7) Tryz.func59 rfl rfl rfl (by simp) fo (by kernel_rfl) ?_
 by_cases h : s.size = 0
 ·have e : splitE 44 s.data.toList = [] := by rw [splitE, if_pos (List.eq_nil_of_length_eq_zero (by rw [← size_eq]; exact h))]
  rw [e]
  simp (decide := true) (maxSteps := 4000000) -implicitDefEqProofs only [S0, ↓reduceIte, Int.reduceAdd, Int.reduceSub, Int.reduceToNat, Int.reduceNeg, Nat.reduceAdd, Nat.reduceMul, Nat.reduceSub, reduceCtorEq, beq_empty, h]
 ·have e : splitE 44 s.data.toList = splitC 44 s.data.toList := by rw [splitE, if_neg (fun e => h (by rw [size_eq, e]; rfl))]
  rw [e]
  simp (decide := true) (maxSteps := 4000000) -implicitDefEqProofs only [S0, ↓reduceIte, Int.reduceAdd, Int.reduceSub, Int.reduceToNat, Int.reduceNeg, Nat.reduceAdd, Nat.reduceMul, Nat.reduceSub, reduceCtorEq, beq_empty, h]
  refine call_eq (Split_ok s 44 hs) ?_
  simp (decide := true) (maxSteps := 4000000) -implicitDefEqProofs only [S0, ↓reduceIte, Int.reduceAdd, Int.reduceSub, Int.reduceToNat, Int.reduceNeg, Nat.reduceAdd, Nat.reduceMul, Nat.reduceSub, reduceCtorEq]
theorem recWrite_ok (r : Rc) : Ok Tryz.prog 89 [recV r] (.tup [S (bs (wrL r)), I (chkRec r)]) := by
 refine Ok.of_wp (rs := [.tmp 2, .tmp 3]) (n := 46) Tryz.func89 rfl rfl rfl (by simp) fo (by kernel_rfl) ?_
 simp (decide := true) (maxSteps := 4000000) -implicitDefEqProofs only [S0, ↓reduceIte, Int.reduceAdd, Int.reduceSub, Int.reduceToNat, Int.reduceNeg, Nat.reduceAdd, Nat.reduceMul, Nat.reduceSub, reduceCtorEq]
 refine call_eq (recCheck_ok r) ?_
 unfold wrL
 by_cases hc : chkRec r = 0
 ·rw [if_pos hc]
  have hg := (chkRec_good r).1 hc
  simp (decide := true) (maxSteps := 4000000) -implicitDefEqProofs only [S0, ↓reduceIte, Int.reduceAdd, Int.reduceSub, Int.reduceToNat, Int.reduceNeg, Nat.reduceAdd, Nat.reduceMul, Nat.reduceSub, reduceCtorEq, hc]
  have hn := hg.nf
  refine ALoop.st [1, 5, 14, 15, 16] (fun (i : Nat) => [.ptr (.l 1) 1 0, .own (.l 28) 0 1 0 i, fds r.fields, I r.fields.length, I i]) (fun i => [(.l 1, 1, .cells 35 [S r.id, I r.cats, fds r.fields, strs r.refs]), (.l 28, 0, .row 9 1 none ((r.fields.take i).map fun f => [S (bs (fdL f))]))])
   (fun i => i ≤ r.fields.length) (fun i => r.fields.length - i) [.l 28] 0 (by simp (decide := true) (maxSteps := 4000000) -implicitDefEqProofs only [S0, ↓reduceIte, Int.reduceAdd, Int.reduceSub, Int.reduceToNat, Int.reduceNeg, Nat.reduceAdd, Nat.reduceMul, Nat.reduceSub, reduceCtorEq]; try omega) (by simp (decide := true) (maxSteps := 4000000) -implicitDefEqProofs only [S0, ↓reduceIte, Int.reduceAdd, Int.reduceSub, Int.reduceToNat, Int.reduceNeg, Nat.reduceAdd, Nat.reduceMul, Nat.reduceSub, reduceCtorEq]) (by omega) ?_
  intro i hi
  by_cases h : i < r.fields.length
  ·obtain ⟨f, hf⟩ := lt_get h
   have hi' : (i : Int) < r.fields.length := by omega
   have hfo := fOk_mem hg.fs (List.mem_of_getElem? hf)
   have z1 := id_size hfo.1
   have z2 := val_size hfo.2
   simp (decide := true) (maxSteps := 4000000) -implicitDefEqProofs only [S0, ↓reduceIte, Int.reduceAdd, Int.reduceSub, Int.reduceToNat, Int.reduceNeg, Nat.reduceAdd, Nat.reduceMul, Nat.reduceSub, reduceCtorEq, hi', hf, wr_add1 hi' (by omega), fdL_eq, ba_size]
   refine ⟨by simp only [show (⟨#[61]⟩ : ByteArray).size = 1 from rfl]; omega, by simp only [show (⟨#[61]⟩ : ByteArray).size = 1 from rfl]; omega, by rw [List.length_take]; omega, by omega, ?_⟩
   refine Nxt.mk [] (i + 1) (by simp (decide := true) (maxSteps := 4000000) -implicitDefEqProofs only [S0, ↓reduceIte, Int.reduceAdd, Int.reduceSub, Int.reduceToNat, Int.reduceNeg, Nat.reduceAdd, Nat.reduceMul, Nat.reduceSub, reduceCtorEq]) (by simp (decide := true) (maxSteps := 4000000) -implicitDefEqProofs only [S0, ↓reduceIte, Int.reduceAdd, Int.reduceSub, Int.reduceToNat, Int.reduceNeg, Nat.reduceAdd, Nat.reduceMul, Nat.reduceSub, reduceCtorEq]; simp [take_get hf, List.take_of_length_le, List.length_take, Nat.min_eq_left hi]) (by omega) (by omega)
  ·have hi' : ¬ (i : Int) < r.fields.length := by omega
   obtain rfl : i = r.fields.length := by omega
   obtain ⟨z1, z2, z3, z4⟩ := recL_lens hg
   have hcat := hg.cats
   have hnr := hg.nr
   have k1 : (⟨#[59]⟩ : ByteArray).size = 1 := rfl
   have tk : List.take r.fields.length r.fields = r.fields := List.take_of_length_le (Nat.le_refl _)
   rw [tk]
   simp (decide := true) (maxSteps := 4000000) -implicitDefEqProofs only [S0, ↓reduceIte, Int.reduceAdd, Int.reduceSub, Int.reduceToNat, Int.reduceNeg, Nat.reduceAdd, Nat.reduceMul, Nat.reduceSub, reduceCtorEq, hi', ba_size, k1, bs_size]
   refine ⟨by omega, ?_⟩
   refine call_eq (Itoa_ok r.cats (by omega)) ?_
   obtain ⟨F, hF⟩ : ∃ F, F = r.fields.map fun f => bs (fdL f) := ⟨_, rfl⟩
   have e1 : List.map (fun f => [S (bs (fdL f))]) r.fields = (F.map fun s => [S s]) := by rw [hF, List.map_map]; rfl
   have e2 : F.map (fun s : ByteArray => s.data.toList) = r.fields.map fdL := by rw [hF, List.map_map]; rfl
   have e3 : List.take r.fields.length (F.map fun s => [S s]) = F.map fun s => [S s] := List.take_of_length_le (by rw [List.length_map, hF, List.length_map]; exact Nat.le_refl _)
   have e4 : F.length = r.fields.length := by rw [hF, List.length_map]
   rw [e1]
   simp (decide := true) (maxSteps := 4000000) -implicitDefEqProofs only [S0, ↓reduceIte, Int.reduceAdd, Int.reduceSub, Int.reduceToNat, Int.reduceNeg, Nat.reduceAdd, Nat.reduceMul, Nat.reduceSub, reduceCtorEq, ba_size, k1, bs_size, e3, e4]
   refine ⟨by omega, by omega, ?_⟩
   refine call_eq (sJoin_ok F 44 (by omega) (by rw [e2]; omega)) ?_
   rw [e2]
   simp (decide := true) (maxSteps := 4000000) -implicitDefEqProofs only [S0, ↓reduceIte, Int.reduceAdd, Int.reduceSub, Int.reduceToNat, Int.reduceNeg, Nat.reduceAdd, Nat.reduceMul, Nat.reduceSub, reduceCtorEq, ba_size, k1, bs_size]
   refine ⟨by omega, by omega, ?_⟩
   refine call_eq (sJoin_ok r.refs 44 (by omega) (by omega)) ?_
   simp (decide := true) (maxSteps := 4000000) -implicitDefEqProofs only [S0, ↓reduceIte, Int.reduceAdd, Int.reduceSub, Int.reduceToNat, Int.reduceNeg, Nat.reduceAdd, Nat.reduceMul, Nat.reduceSub, reduceCtorEq, ba_size, k1, bs_size]
   refine ⟨by omega, ?_⟩
   exact S_eq (ba_ext (by simp [ba_app, recL, bs]))
 ·rw [if_neg hc]
  simp (decide := true) (maxSteps := 4000000) -implicitDefEqProofs only [S0, ↓reduceIte, Int.reduceAdd, Int.reduceSub, Int.reduceToNat, Int.reduceNeg, Nat.reduceAdd, Nat.reduceMul, Nat.reduceSub, reduceCtorEq, hc]
  rfl
theorem splitC_len {c : UInt8} : ∀ {l y : List UInt8}, y ∈ splitC c l → y.length ≤ l.length
 | [], y, h => by simp [splitC] at h; simp [h]
 | x :: l, y, h => by
  rw [splitC] at h
  have ih := @splitC_len c l
  split at h
  ·rcases List.mem_cons.1 h with rfl | h
   ·simp
   ·have := ih h; simp; omega
  ·split at h
   ·simp at h; subst h; simp
   ·rename_i y' r e
    rw [e] at ih
    rcases List.mem_cons.1 h with rfl | h
    ·have := ih (List.mem_cons_self ..); simpa using this
    ·have := ih (List.mem_cons_of_mem _ h); simp; omega
theorem splitC_num (c : UInt8) : ∀ l : List UInt8, (splitC c l).length ≤ l.length + 1
 | [] => by simp [splitC]
 | x :: l => by
  rw [splitC]
  have ih := splitC_num c l
  split
  ·simp; omega
  ·split
   ·simp
   ·rename_i e; rw [e] at ih; simp at ih ⊢; omega
theorem splitE_len {c : UInt8} {l y : List UInt8} (h : y ∈ splitE c l) : y.length ≤ l.length := by
 unfold splitE at h
 split at h
 ·cases h
 ·exact splitC_len h
theorem splitE_num (c : UInt8) (l : List UInt8) : (splitE c l).length ≤ l.length + 1 := by
 unfold splitE
 split
 ·simp
 ·exact splitC_num c l
theorem ofFds_snoc {w : List UInt8} {f : Fd} : ∀ {l : List (List UInt8)} {fs : List Fd}, ofFds l = some fs → ofFd w = some f → ofFds (l ++ [w]) = some (fs ++ [f])
 | [], fs, h, hw => by cases h; simp [ofFds, hw]
 | v :: l, fs, h, hw => by
  rw [ofFds] at h
  split at h
  ·cases h
  ·rename_i g e
   obtain ⟨r, hr, rfl⟩ := Option.map_eq_some_iff.1 h
   rw [List.cons_append, ofFds, e, ofFds_snoc hr hw]
   rfl
theorem ofFds_none {w : List UInt8} : ∀ {l : List (List UInt8)}, w ∈ l → ofFd w = none → ofFds l = none
 | v :: l, h, hw => by
  rw [ofFds]
  rcases List.mem_cons.1 h with rfl | h
  ·rw [hw]
  ·rw [ofFds_none h hw]
   split <;> rfl
theorem ofFds_len : ∀ {l : List (List UInt8)} {fs : List Fd}, ofFds l = some fs → fs.length = l.length
 | [], fs, h => by cases h; rfl
 | v :: l, fs, h => by
  rw [ofFds] at h
  split at h
  ·cases h
  ·obtain ⟨r, hr, rfl⟩ := Option.map_eq_some_iff.1 h
   simp [ofFds_len hr]
abbrev noRecV : AV := recV noRc
theorem recRead_ok (s : ByteArray) (hs : s.size < 4294967281) : Ok Tryz.prog 19 [S s] (.tup [recV (readR s.data.toList), I (readC s.data.toList)]) := by
 refine Ok.of_wp (rs := [.cell 2 35, .tmp 3]) (n := 89) Tryz.func19 rfl rfl rfl (by simp) fo (by kernel_rfl) ?_
 simp (decide := true) (maxSteps := 4000000) -implicitDefEqProofs only [S0, ↓reduceIte, Int.reduceAdd, Int.reduceSub, Int.reduceToNat, Int.reduceNeg, Nat.reduceAdd, Nat.reduceMul, Nat.reduceSub, reduceCtorEq]
 refine call_eq (Split_ok s 59 hs) ?_
 unfold readR readC rawRc
 have hmem := fun y => @splitC_mem 59 s.data.toList y
 have hj := join_split 59 s.data.toList
 generalize splitC 59 s.data.toList = L at *
 match L with
 | [a, b, c, d] =>
  have hsz : a.length + b.length + c.length + d.length ≤ s.size := by
   rw [size_eq, ← hj]
   simp only [joinC, List.length_append, List.length_cons]
   omega
  simp (decide := true) (maxSteps := 4000000) -implicitDefEqProofs only [S0, ↓reduceIte, Int.reduceAdd, Int.reduceSub, Int.reduceToNat, Int.reduceNeg, Nat.reduceAdd, Nat.reduceMul, Nat.reduceSub, reduceCtorEq]
  refine call_eq (recSplit_ok (bs d) (by rw [bs_size]; omega)) ?_
  rw [bs_list]
  generalize hD : (splitE 44 d).map bs = D
  simp (decide := true) (maxSteps := 4000000) -implicitDefEqProofs only [S0, ↓reduceIte, Int.reduceAdd, Int.reduceSub, Int.reduceToNat, Int.reduceNeg, Nat.reduceAdd, Nat.reduceMul, Nat.reduceSub, reduceCtorEq]
  refine call_eq (Atoi_ok (bs b) (by rw [bs_size]; omega)) ?_
  rw [bs_list]
  unfold numA errA numOk
  cases hb : Lib.atoiAll b with
  | range => simp (decide := true) (maxSteps := 4000000) -implicitDefEqProofs only [S0, ↓reduceIte, Int.reduceAdd, Int.reduceSub, Int.reduceToNat, Int.reduceNeg, Nat.reduceAdd, Nat.reduceMul, Nat.reduceSub, reduceCtorEq]; exact ⟨rfl, rfl⟩
  | ok v =>
   have hv := Lib.atoiAll_bounds hb
   by_cases hb9 : (b.length : Int) > 9
   ·have hN : (if b.length ≤ 9 ∧ Lib.itoa v = b then some v else none) = none := if_neg (by omega)
    simp (decide := true) (maxSteps := 4000000) -implicitDefEqProofs only [S0, ↓reduceIte, Int.reduceAdd, Int.reduceSub, Int.reduceToNat, Int.reduceNeg, Nat.reduceAdd, Nat.reduceMul, Nat.reduceSub, reduceCtorEq, hb9, bs_size, hN]
    exact ⟨rfl, rfl⟩
   ·simp (decide := true) (maxSteps := 4000000) -implicitDefEqProofs only [S0, ↓reduceIte, Int.reduceAdd, Int.reduceSub, Int.reduceToNat, Int.reduceNeg, Nat.reduceAdd, Nat.reduceMul, Nat.reduceSub, reduceCtorEq, hb9, bs_size]
    refine call_eq (Itoa_ok v hv) ?_
    have hb8 : b.length ≤ 9 := by omega
    by_cases hbi : Lib.itoa v = b
    ·have hN : (if b.length ≤ 9 ∧ Lib.itoa v = b then some v else none) = some v := if_pos ⟨by omega, hbi⟩
     simp (decide := true) (maxSteps := 4000000) -implicitDefEqProofs only [S0, ↓reduceIte, Int.reduceAdd, Int.reduceSub, Int.reduceToNat, Int.reduceNeg, Nat.reduceAdd, Nat.reduceMul, Nat.reduceSub, reduceCtorEq, toList_beq, hbi]
     refine call_eq (recSplit_ok (bs c) (by rw [bs_size]; omega)) ?_
     rw [bs_list]
     have hWl := splitE_num 44 c
     have hWm := fun y => @splitE_len 44 c y
     generalize splitE 44 c = W at *
     simp (decide := true) (maxSteps := 4000000) -implicitDefEqProofs only [S0, ↓reduceIte, Int.reduceAdd, Int.reduceSub, Int.reduceToNat, Int.reduceNeg, Nat.reduceAdd, Nat.reduceMul, Nat.reduceSub, reduceCtorEq]
     refine ALoop.st [2, 4, 5, 58, 59, 60] (fun (q : List Fd) => [.ptr (.l 2) 1 0, .list 1 (List.map (fun s => [S s]) [bs a, bs b, bs c, bs d]), .ptr (.l 5) 1 0, .list 1 ((W.map bs).map fun s => [S s]), I W.length, I q.length])
      (fun q => [(.l 2, 1, .cells 35 [S ⟨#[]⟩, I 0, .val (.slice none 0 0), .val (.slice none 0 0)]), (.l 5, 1, .cells 35 [S (bs a), I v, .own (.l 79) 0 2 0 q.length, strs D]), (.l 79, 0, .row 37 2 none (q.map fdC))])
      (fun q => q.length ≤ W.length ∧ ofFds (W.take q.length) = some q) (fun q => W.length - q.length) [.l 79] [] (by simp (decide := true) (maxSteps := 4000000) -implicitDefEqProofs only [S0, ↓reduceIte, Int.reduceAdd, Int.reduceSub, Int.reduceToNat, Int.reduceNeg, Nat.reduceAdd, Nat.reduceMul, Nat.reduceSub, reduceCtorEq]; try omega) (by simp (decide := true) (maxSteps := 4000000) -implicitDefEqProofs only [S0, ↓reduceIte, Int.reduceAdd, Int.reduceSub, Int.reduceToNat, Int.reduceNeg, Nat.reduceAdd, Nat.reduceMul, Nat.reduceSub, reduceCtorEq]) ⟨by simp, by simp [ofFds]⟩ ?_
     rintro q ⟨hq, hof⟩
     by_cases h : q.length < W.length
     ·have hq' : (q.length : Int) < W.length := by omega
      obtain ⟨w, hw⟩ := lt_get h
      have hwl := hWm w (List.mem_of_getElem? hw)
      simp (decide := true) (maxSteps := 4000000) -implicitDefEqProofs only [S0, ↓reduceIte, Int.reduceAdd, Int.reduceSub, Int.reduceToNat, Int.reduceNeg, Nat.reduceAdd, Nat.reduceMul, Nat.reduceSub, reduceCtorEq, hq', hw, wr_add1 hq' (by omega), hN]
      refine call_eq (sCut_ok (bs w) 61 (by rw [bs_size]; omega)) ?_
      rw [bs_list]
      by_cases h61 : (61 : UInt8) ∈ w
      ·obtain ⟨a', b', hw', hn'⟩ := List.eq_append_cons_of_mem h61
       have hcut : Lib.cut w [61] = (a', b', true) := by rw [hw']; exact cut_hit hn'
       have hfd : ofFd w = some ⟨bs a', bs b'⟩ := by rw [ofFd, if_pos h61, hcut]
       have tk : List.take q.length (List.map fdC q) = List.map fdC q := List.take_of_length_le (by simp)
       rw [hcut]
       simp (decide := true) (maxSteps := 4000000) -implicitDefEqProofs only [S0, ↓reduceIte, Int.reduceAdd, Int.reduceSub, Int.reduceToNat, Int.reduceNeg, Nat.reduceAdd, Nat.reduceMul, Nat.reduceSub, reduceCtorEq, tk, wr_add1 hq' (by omega)]
       refine ⟨by omega, ?_⟩
       refine Nxt.mk [] (q ++ [⟨bs a', bs b'⟩]) (by simp (decide := true) (maxSteps := 4000000) -implicitDefEqProofs only [S0, ↓reduceIte, Int.reduceAdd, Int.reduceSub, Int.reduceToNat, Int.reduceNeg, Nat.reduceAdd, Nat.reduceMul, Nat.reduceSub, reduceCtorEq]) (by simp (decide := true) (maxSteps := 4000000) -implicitDefEqProofs only [S0, ↓reduceIte, Int.reduceAdd, Int.reduceSub, Int.reduceToNat, Int.reduceNeg, Nat.reduceAdd, Nat.reduceMul, Nat.reduceSub, reduceCtorEq]; simp) ⟨by simp; omega, ?_⟩ (by simp; omega)
       rw [List.length_append, List.length_singleton, take_get hw]
       exact ofFds_snoc hof hfd
      ·have hfs : ofFds W = none := ofFds_none (List.mem_of_getElem? hw) (by rw [ofFd, if_neg h61])
       rw [cut_none h61]
       simp (decide := true) (maxSteps := 4000000) -implicitDefEqProofs only [S0, ↓reduceIte, Int.reduceAdd, Int.reduceSub, Int.reduceToNat, Int.reduceNeg, Nat.reduceAdd, Nat.reduceMul, Nat.reduceSub, reduceCtorEq, hfs, hb8]
       exact ⟨rfl, rfl⟩
     ·have hq' : ¬ (q.length : Int) < W.length := by omega
      have hfs : ofFds W = some q := by rw [← hof, List.take_of_length_le (by omega)]
      have tk : List.take q.length (List.map fdC q) = List.map fdC q := List.take_of_length_le (by simp)
      simp (decide := true) (maxSteps := 4000000) -implicitDefEqProofs only [S0, ↓reduceIte, Int.reduceAdd, Int.reduceSub, Int.reduceToNat, Int.reduceNeg, Nat.reduceAdd, Nat.reduceMul, Nat.reduceSub, reduceCtorEq, hq', tk]
      refine call_eq (recCheck_ok ⟨bs a, v, q, D⟩) ?_
      by_cases hck : chkRec ⟨bs a, v, q, D⟩ = 0
      ·simp (decide := true) (maxSteps := 4000000) -implicitDefEqProofs only [S0, ↓reduceIte, Int.reduceAdd, Int.reduceSub, Int.reduceToNat, Int.reduceNeg, Nat.reduceAdd, Nat.reduceMul, Nat.reduceSub, reduceCtorEq, hck, hfs, hb8, tk]
      ·simp (decide := true) (maxSteps := 4000000) -implicitDefEqProofs only [S0, ↓reduceIte, Int.reduceAdd, Int.reduceSub, Int.reduceToNat, Int.reduceNeg, Nat.reduceAdd, Nat.reduceMul, Nat.reduceSub, reduceCtorEq, hck, hfs, hb8, tk]
       exact ⟨rfl, rfl⟩
    ·have hbi' : decide (bs (Lib.itoa v) = bs b) = false := decide_eq_false (fun e => hbi (bs_inj.1 e))
     have hN : (if b.length ≤ 9 ∧ Lib.itoa v = b then some v else none) = none := if_neg fun h => hbi h.2
     simp (decide := true) (maxSteps := 4000000) -implicitDefEqProofs only [S0, ↓reduceIte, Int.reduceAdd, Int.reduceSub, Int.reduceToNat, Int.reduceNeg, Nat.reduceAdd, Nat.reduceMul, Nat.reduceSub, reduceCtorEq, toList_beq, hbi', hN]
     exact ⟨rfl, rfl⟩
  | _ => simp (decide := true) (maxSteps := 4000000) -implicitDefEqProofs only [S0, ↓reduceIte, Int.reduceAdd, Int.reduceSub, Int.reduceToNat, Int.reduceNeg, Nat.reduceAdd, Nat.reduceMul, Nat.reduceSub, reduceCtorEq]; exact ⟨rfl, rfl⟩
 | [] => simp (decide := true) (maxSteps := 4000000) -implicitDefEqProofs only [S0, ↓reduceIte, Int.reduceAdd, Int.reduceSub, Int.reduceToNat, Int.reduceNeg, Nat.reduceAdd, Nat.reduceMul, Nat.reduceSub, reduceCtorEq]; exact ⟨rfl, rfl⟩
 | [_] => simp (decide := true) (maxSteps := 4000000) -implicitDefEqProofs only [S0, ↓reduceIte, Int.reduceAdd, Int.reduceSub, Int.reduceToNat, Int.reduceNeg, Nat.reduceAdd, Nat.reduceMul, Nat.reduceSub, reduceCtorEq]; exact ⟨rfl, rfl⟩
 | [_, _] => simp (decide := true) (maxSteps := 4000000) -implicitDefEqProofs only [S0, ↓reduceIte, Int.reduceAdd, Int.reduceSub, Int.reduceToNat, Int.reduceNeg, Nat.reduceAdd, Nat.reduceMul, Nat.reduceSub, reduceCtorEq]; exact ⟨rfl, rfl⟩
 | [_, _, _] => simp (decide := true) (maxSteps := 4000000) -implicitDefEqProofs only [S0, ↓reduceIte, Int.reduceAdd, Int.reduceSub, Int.reduceToNat, Int.reduceNeg, Nat.reduceAdd, Nat.reduceMul, Nat.reduceSub, reduceCtorEq]; exact ⟨rfl, rfl⟩
 | _ :: _ :: _ :: _ :: _ :: r => 
  simp (decide := true) (maxSteps := 4000000) -implicitDefEqProofs only [S0, ↓reduceIte, Int.reduceAdd, Int.reduceSub, Int.reduceToNat, Int.reduceNeg, Nat.reduceAdd, Nat.reduceMul, Nat.reduceSub, reduceCtorEq]
  rw [if_pos (by omega)]
  exact ⟨rfl, rfl⟩
end Go.Proofs.YtonolfpnidaflaaGreatDoor.E
