/- Walks: TopFinds. No conditions. -/
import Derived.Test.YtpdenloeacaadaaIdxQ
import Derived.Test.YtpdenloeacaadaaTopB
namespace Go.Proofs.Ytpdenloeacaadaa.E
open Go
set_option linter.unusedSimpArgs false
set_option linter.unusedVariables false
set_option linter.unusedSectionVars false
set_option maxRecDepth 20000
set_option maxHeartbeats 2000000
theorem id_full {l : List Vn} (h : chkSt l = 0) {x : ByteArray} (hx : (getN l x).isSome = true) : ¬ x = ⟨#[]⟩ := by
 obtain ⟨r, hg⟩ := Option.isSome_iff_exists.1 hx
 obtain ⟨e, v, hv, rfl⟩ := getN_some hg
 intro e2
 have h1 := (chkSt_len h).2 v hv
 unfold chkRec at h1
 rw [e, e2, if_neg (by decide)] at h1
 cases h1
theorem fE_none (x : ByteArray) : sLt x ⟨#[]⟩ = false := by
 rw [Bool.eq_false_iff]
 intro h
 have := sLt_iff.1 h
 simp at this
theorem pgAt_first {l : List ByteArray} (h : ∀ x ∈ l, ¬ x = ⟨#[]⟩) : pgAt l ⟨#[]⟩ = 0 := by
 unfold pgAt posS
 rw [List.filter_eq_nil_iff.2 (fun x _ => by rw [fE_none]; simp), if_neg]
 ·rfl
 ·intro ha
  obtain ⟨y, hy, e⟩ := List.any_eq_true.1 ha
  exact h y hy (of_decide_eq_true e)
/-- Behind which name the next page begins. -/
def frm (q : List ByteArray) (i : Nat) : ByteArray := match i with
 | 0 => ⟨#[]⟩
 | j + 1 => (q[j]?).getD ⟨#[]⟩
theorem pgAt_frm {q : List ByteArray} (hu : StrUp q) (h : ∀ x ∈ q, ¬ x = ⟨#[]⟩) {i : Nat} (hi : i ≤ q.length) : pgAt q (frm q i) = i := by
 cases i with
 | zero => exact pgAt_first h
 | succ j =>
  obtain ⟨x, hx⟩ := lt_get (l := q) (i := j) (by omega)
  show pgAt q ((q[j]?).getD ⟨#[]⟩) = j + 1
  rw [hx]
  exact pgAt_get hu hx
abbrev fKX : Fd := ⟨⟨#[107]⟩, ⟨#[120]⟩⟩
theorem fKX_ok : byOk fKX = true := by decide
def opF (r : Nat) : OpS := ⟨5, ⟨r, 0, 1⟩, [], ⟨⟨#[]⟩, 0, [], []⟩, ⟨#[]⟩, fKX⟩
theorem opF_f (r : Nat) : (opF r).kind = 5 ∧ (opF r).who = ⟨r, 0, 1⟩ ∧ (opF r).rs = [] ∧ (opF r).rcd = ⟨⟨#[]⟩, 0, [], []⟩ ∧ (opF r).id = ⟨#[]⟩ ∧ (opF r).fd.key = ⟨#[107]⟩ ∧ (opF r).fd.val = ⟨#[120]⟩ := ⟨rfl, rfl, rfl, rfl, rfl, rfl, rfl⟩
theorem opF_do {s : Sv} {r : Nat} (h : sErr s ⟨r, 0, 1⟩ = 0) : doS s (opF r) = (s, ⟨0, [], byL (partL (sSees s ⟨r, 0, 1⟩) s.l) fKX, []⟩) := by
 have hd : doAsk s (opF r) = ⟨0, [], byL (partL (sSees s ⟨r, 0, 1⟩) s.l) fKX, []⟩ := by
  unfold doAsk
  rw [if_pos (show sErr s (opF r).who = 0 from h), if_neg (show ¬ (opF r).kind = 4 from (by decide : ¬ (5 : Int) = 4)), if_neg (show ¬ (opF r).kind = 6 from (by decide : ¬ (5 : Int) = 6)), if_pos (show byOk (opF r).fd = true from fKX_ok)]
  rfl
 unfold doS
 rw [if_neg (show ¬ (opF r).kind = 1 from (by decide : ¬ (5 : Int) = 1)), if_neg (show ¬ (opF r).kind = 2 from (by decide : ¬ (5 : Int) = 2)), if_neg (show ¬ (opF r).kind = 3 from (by decide : ¬ (5 : Int) = 3)), if_neg (show ¬ (opF r).kind = 7 from (by decide : ¬ (5 : Int) = 7)), if_neg (show ¬ (opF r).kind = 8 from (by decide : ¬ (5 : Int) = 8)), if_pos (show (opF r).kind = 4 ∨ (opF r).kind = 5 ∨ (opF r).kind = 6 from .inr (.inl rfl)), hd]
theorem TopFinds_ok (l : List (List Int)) (role n0 : Int) : Ok Try.prog 3 [.list 1 (l.map fun c => [ints c]), I role, I n0] (B true) := by
 refine Ok.of_wp (rs := [.tmp 6]) (n := 149) Try.func3 rfl rfl rfl (by simp) fo (by kernel_rfl) ?_
 simp (decide := true) (maxSteps := 4000000) -implicitDefEqProofs only [S0, ↓reduceIte, Int.reduceAdd, Int.reduceSub, Int.reduceToNat, Int.reduceNeg, Nat.reduceAdd, Nat.reduceMul, Nat.reduceSub, reduceCtorEq]
 refine call_eq begun_ok ?_
 simp (decide := true) (maxSteps := 4000000) -implicitDefEqProofs only [S0, ↓reduceIte, Int.reduceAdd, Int.reduceSub, Int.reduceToNat, Int.reduceNeg, Nat.reduceAdd, Nat.reduceMul, Nat.reduceSub, reduceCtorEq]
 refine callH began_ok [.l 31, .m 31 1] ?_
 simp (decide := true) (maxSteps := 4000000) -implicitDefEqProofs only [S0, ↓reduceIte, Int.reduceAdd, Int.reduceSub, Int.reduceToNat, Int.reduceNeg, Nat.reduceAdd, Nat.reduceMul, Nat.reduceSub, reduceCtorEq]
 refine call_eq (ops_ok l) ?_
 rw [← opS'_C]
 have hql := opsT_len l
 generalize (opsL l).map opS' = q at hql
 simp (decide := true) (maxSteps := 4000000) -implicitDefEqProofs only [S0, ↓reduceIte, Int.reduceAdd, Int.reduceSub, Int.reduceToNat, Int.reduceNeg, Nat.reduceAdd, Nat.reduceMul, Nat.reduceSub, reduceCtorEq]
 refine ALoop.st [1, 2, 7, 37, 38, 39] (fun (i : Nat) => [I role, I n0, .ptr (.l 31) 1 0, opsA q, I q.length, I i]) (fun i => [(.l 31, 1, .cells 72 (svAt (.m 31 1) 1 (runL svT (q.take i)))), (.m 31 1, 1, .row 77 4 none ((runL svT (q.take i)).notes.map ntC))]) (fun i => i ≤ q.length) (fun i => q.length - i) [] 0 (by simp (decide := true) (maxSteps := 4000000) -implicitDefEqProofs only [S0, ↓reduceIte, Int.reduceAdd, Int.reduceSub, Int.reduceToNat, Int.reduceNeg, Nat.reduceAdd, Nat.reduceMul, Nat.reduceSub, reduceCtorEq]; try rfl) (by simp (decide := true) (maxSteps := 4000000) -implicitDefEqProofs only [S0, ↓reduceIte, Int.reduceAdd, Int.reduceSub, Int.reduceToNat, Int.reduceNeg, Nat.reduceAdd, Nat.reduceMul, Nat.reduceSub, reduceCtorEq, List.take_zero, run_nil]; try rfl) (Nat.zero_le _) ?_
 intro i hi
 by_cases h : (i : Int) < q.length
 ·obtain ⟨x, hx⟩ := lt_get (l := q) (i := i) (by omega)
  have hw := wr_add1 h (by omega)
  have hs := (runL_ok svT_ok (q.take i)).1
  have e := run_snoc (s := svT) hx
  simp (decide := true) (maxSteps := 4000000) -implicitDefEqProofs only [S0, ↓reduceIte, Int.reduceAdd, Int.reduceSub, Int.reduceToNat, Int.reduceNeg, Nat.reduceAdd, Nat.reduceMul, Nat.reduceSub, reduceCtorEq, h, hx]
  refine callH (srvDo_ok hs x) [.l 31, .m 31 1] ?_
  simp (decide := true) (maxSteps := 4000000) -implicitDefEqProofs only [S0, ↓reduceIte, Int.reduceAdd, Int.reduceSub, Int.reduceToNat, Int.reduceNeg, Nat.reduceAdd, Nat.reduceMul, Nat.reduceSub, reduceCtorEq]
  exact Nxt.mk [] (i + 1) (by simp (decide := true) (maxSteps := 4000000) -implicitDefEqProofs only [S0, ↓reduceIte, Int.reduceAdd, Int.reduceSub, Int.reduceToNat, Int.reduceNeg, Nat.reduceAdd, Nat.reduceMul, Nat.reduceSub, reduceCtorEq, hw]) (by simp (decide := true) (maxSteps := 4000000) -implicitDefEqProofs only [S0, ↓reduceIte, Int.reduceAdd, Int.reduceSub, Int.reduceToNat, Int.reduceNeg, Nat.reduceAdd, Nat.reduceMul, Nat.reduceSub, reduceCtorEq, e, or_true]) (by omega) (by omega)
 obtain rfl : i = q.length := by omega
 rw [List.take_length]
 obtain ⟨hs, hup⟩ := runL_ok svT_ok q
 have hup : (runL svT q).up = [0, 1, 2] := hup
 have hlen : (runL svT q).l.length ≤ 25 := by
  have := runL_len svT q
  have e0 : svT.l.length = 0 := rfl
  omega
 generalize runL svT q = s at hs hup hlen
 obtain ⟨er, hr⟩ := wN_eq role (n := 3) (by omega)
 have hw3 : whoOk3 ⟨(wN role 3 : Nat), 0, 1⟩ := by
  refine ⟨?_, ?_, ?_⟩
  ·unfold whoOk
   rw [decide_eq_true_eq]
   simp only
   omega
  ·simp only; omega
  ·simp only; omega
 generalize wN role 3 = r at er hr hw3
 have hE := sErr3 hs hup hw3
 have hS := Sees_ok' (seesE_zero.1 hE).1 (seesE_zero.1 hE).2.1 (seesE_zero.1 hE).2.2
 rw [hup] at hS
 have hm := sSees_lt hs ⟨r, 0, 1⟩
 have hdo := opF_do hE
 have e1 : seesF (fitsW [0, 1, 2] ⟨r, 0, 1⟩) s.rs = sSees s ⟨r, 0, 1⟩ := by unfold sSees; rw [hup]
 rw [e1] at hS
 generalize sSees s ⟨r, 0, 1⟩ = m at hS hm hdo
 simp (decide := true) (maxSteps := 4000000) -implicitDefEqProofs only [S0, ↓reduceIte, Int.reduceAdd, Int.reduceSub, Int.reduceToNat, Int.reduceNeg, Nat.reduceAdd, Nat.reduceMul, Nat.reduceSub, reduceCtorEq, h]
 refine call_eq (Within_ok role 3 (by omega) (by omega)) ?_
 rw [show within role 3 = (r : Int) from er]
 simp (decide := true) (maxSteps := 4000000) -implicitDefEqProofs only [S0, ↓reduceIte, Int.reduceAdd, Int.reduceSub, Int.reduceToNat, Int.reduceNeg, Nat.reduceAdd, Nat.reduceMul, Nat.reduceSub, reduceCtorEq]
 refine callH (srvRules_ok hs) [.l 31, .m 31 1] ?_
 simp (decide := true) (maxSteps := 4000000) -implicitDefEqProofs only [S0, ↓reduceIte, Int.reduceAdd, Int.reduceSub, Int.reduceToNat, Int.reduceNeg, Nat.reduceAdd, Nat.reduceMul, Nat.reduceSub, reduceCtorEq]
 refine call_eq hS ?_
 simp (decide := true) (maxSteps := 4000000) -implicitDefEqProofs only [S0, ↓reduceIte, Int.reduceAdd, Int.reduceSub, Int.reduceToNat, Int.reduceNeg, Nat.reduceAdd, Nat.reduceMul, Nat.reduceSub, reduceCtorEq]
 have cD := srvDo_ok hs (opF r)
 rw [hdo] at cD
 have v0 : vD s (opF r) = 0 := rfl
 rw [v0] at cD
 refine callH cD [.l 31, .m 31 1] ?_
 simp (decide := true) (maxSteps := 4000000) -implicitDefEqProofs only [S0, ↓reduceIte, Int.reduceAdd, Int.reduceSub, Int.reduceToNat, Int.reduceNeg, Nat.reduceAdd, Nat.reduceMul, Nat.reduceSub, reduceCtorEq, opF_f, Option.getD_some]
 refine callH (srvVersions_ok hs) [.l 31, .m 31 1] ?_
 simp (decide := true) (maxSteps := 4000000) -implicitDefEqProofs only [S0, ↓reduceIte, Int.reduceAdd, Int.reduceSub, Int.reduceToNat, Int.reduceNeg, Nat.reduceAdd, Nat.reduceMul, Nat.reduceSub, reduceCtorEq]
 refine call_eq (Part_okS hs.2.2.1 hm) ?_
 have hp : chkSt (partL (m : Int) s.l) = 0 := chkSt_part hs.2.2.1
 have hpl : (partL (m : Int) s.l).length ≤ 25 := Nat.le_trans (by unfold partL; exact List.length_filter_le _ _) hlen
 generalize partL (m : Int) s.l = p at hp hpl ⊢
 have hB0 := By_okS hp fKX
 rw [fKX_ok, if_pos rfl, if_pos rfl] at hB0
 have b0 := newL_B hp (by omega)
 have hB := ByX_ok (newL p) fKX (newL_up p) (b0.mono (by omega) (by omega))
 rw [says_new, fKX_ok, if_pos rfl, if_pos rfl] at hB
 have lx := byL_len p fKX
 have hu := byL_up p fKX
 have hx0 : ∀ x ∈ byL p fKX, ¬ x = ⟨#[]⟩ := fun x hx => id_full hp (ids_mem.1 (byL_in.1 hx).1)
 generalize byL p fKX = X at *
 simp (decide := true) (maxSteps := 4000000) -implicitDefEqProofs only [S0, ↓reduceIte, Int.reduceAdd, Int.reduceSub, Int.reduceToNat, Int.reduceNeg, Nat.reduceAdd, Nat.reduceMul, Nat.reduceSub, reduceCtorEq]
 refine call_eq hB0 ?_
 simp (decide := true) (maxSteps := 4000000) -implicitDefEqProofs only [S0, ↓reduceIte, Int.reduceAdd, Int.reduceSub, Int.reduceToNat, Int.reduceNeg, Nat.reduceAdd, Nat.reduceMul, Nat.reduceSub, reduceCtorEq]
 refine callHF (New_ok p hp (by omega)) [.l 81] ?_
 have cE := eqStrs_ok X X (by omega)
 rw [decide_eq_true rfl] at cE
 simp (decide := true) (maxSteps := 4000000) -implicitDefEqProofs only [S0, ↓reduceIte, Int.reduceAdd, Int.reduceSub, Int.reduceToNat, Int.reduceNeg, Nat.reduceAdd, Nat.reduceMul, Nat.reduceSub, reduceCtorEq]
 refine call_eq cE ?_
 simp (decide := true) (maxSteps := 4000000) -implicitDefEqProofs only [S0, ↓reduceIte, Int.reduceAdd, Int.reduceSub, Int.reduceToNat, Int.reduceNeg, Nat.reduceAdd, Nat.reduceMul, Nat.reduceSub, reduceCtorEq]
 refine callH hB [.l 81, .l 109] ?_
 have tk : List.take X.length (ss1I X) = ss1I X := List.take_of_length_le (by simp)
 simp (decide := true) (maxSteps := 4000000) -implicitDefEqProofs only [S0, ↓reduceIte, Int.reduceAdd, Int.reduceSub, Int.reduceToNat, Int.reduceNeg, Nat.reduceAdd, Nat.reduceMul, Nat.reduceSub, reduceCtorEq, imp_self, tk]
 refine call_eq cE ?_
 obtain ⟨en, hn⟩ := wN_eq n0 (show 0 < 2 by omega)
 obtain ⟨n, hnn⟩ : ∃ n, n = wN n0 2 + 1 := ⟨_, rfl⟩
 have hnw : IntKind.i64.wrap (1 + (wN n0 2 : Int)) = (n : Int) := by rw [wr_i64 (by omega) (by omega)]; omega
 have hn60 : n ≤ 60 := by omega
 have hn1 : 1 ≤ n := by omega
 simp (decide := true) (maxSteps := 4000000) -implicitDefEqProofs only [S0, ↓reduceIte, Int.reduceAdd, Int.reduceSub, Int.reduceToNat, Int.reduceNeg, Nat.reduceAdd, Nat.reduceMul, Nat.reduceSub, reduceCtorEq]
 refine ALoop.st [2, 18, 23, 24] (fun (i : Nat) => [I n0, strs X, .own (.l 140) 0 1 0 (X.take i).length, S (frm X i)]) (fun i => [(.l 140, 0, .row 9 1 none ((X.take i).map fun s => [S s]))]) (fun i => i ≤ X.length) (fun i => X.length - i) [.l 140] 0 (by simp (decide := true) (maxSteps := 4000000) -implicitDefEqProofs only [S0, ↓reduceIte, Int.reduceAdd, Int.reduceSub, Int.reduceToNat, Int.reduceNeg, Nat.reduceAdd, Nat.reduceMul, Nat.reduceSub, reduceCtorEq]; try rfl) (by simp (decide := true) (maxSteps := 4000000) -implicitDefEqProofs only [S0, ↓reduceIte, Int.reduceAdd, Int.reduceSub, Int.reduceToNat, Int.reduceNeg, Nat.reduceAdd, Nat.reduceMul, Nat.reduceSub, reduceCtorEq, List.take_zero]; try rfl) (Nat.zero_le _) ?_
 intro i hi
 have hpg := pgAt_frm hu hx0 hi
 have cP := Page_ok X (frm X i) n (by omega) hu hn1 hn60
 rw [hpg] at cP
 have hti : List.take (X.take i).length ((X.take i).map fun s => [S s]) = (X.take i).map fun s => [S s] := List.take_of_length_le (by simp)
 simp (decide := true) (maxSteps := 4000000) -implicitDefEqProofs only [S0, ↓reduceIte, Int.reduceAdd, Int.reduceSub, Int.reduceToNat, Int.reduceNeg, Nat.reduceAdd, Nat.reduceMul, Nat.reduceSub, reduceCtorEq]
 refine call_eq (Within_ok n0 2 (by omega) (by omega)) ?_
 rw [show within n0 2 = (wN n0 2 : Int) from en]
 simp (decide := true) (maxSteps := 4000000) -implicitDefEqProofs only [S0, ↓reduceIte, Int.reduceAdd, Int.reduceSub, Int.reduceToNat, Int.reduceNeg, Nat.reduceAdd, Nat.reduceMul, Nat.reduceSub, reduceCtorEq, hnw]
 refine call_eq cP ?_
 by_cases hmore : i + n < X.length
 ·rw [decide_eq_true hmore]
  have hxl : ((X.drop i).take n).length = n := by rw [List.length_take, List.length_drop]; omega
  obtain ⟨y, hy⟩ := lt_get (l := X) (i := i + n - 1) (by omega)
  have hfr : frm X (i + n) = y := by
   obtain ⟨m, hm⟩ : ∃ m, i + n = m + 1 := ⟨i + n - 1, by omega⟩
   rw [hm] at hy ⊢
   show (X[m]?).getD ⟨#[]⟩ = y
   rw [show m + 1 - 1 = m by omega] at hy
   rw [hy]
   rfl
  have hall : X.take (i + n) = X.take i ++ (X.drop i).take n := by rw [← List.take_add]
  have hlen2 : (X.take (i + n)).length = (X.take i).length + n := by rw [hall, List.length_append, hxl]
  have hil : (X.take i).length = i := by rw [List.length_take]; omega
  have hn0 : ((n : Int) == 0) = false := by rw [beq_eq_false_iff_ne]; omega
  have hw1 : IntKind.i64.wrap (((i + n : Nat) : Int) - 1) = ((i + n - 1 : Nat) : Int) := by rw [wr_i64 (by omega) (by omega)]; omega
  have hlt1 : ((i + n - 1 : Nat) : Int) < ((i + n : Nat) : Int) := by omega
  have hget : (((X.take i).map fun s => [S s]) ++ (((X.drop i).take n).map fun s => [S s]))[i + n - 1]? = some [S y] := by
   rw [← List.map_append, ← hall, List.getElem?_map, List.getElem?_take, if_pos (by omega), hy]; rfl
  have hti2 : List.take i ((X.take i).map fun s => [S s]) = (X.take i).map fun s => [S s] := List.take_of_length_le (by simp; omega)
  simp (decide := true) (maxSteps := 4000000) -implicitDefEqProofs only [S0, ↓reduceIte, Int.reduceAdd, Int.reduceSub, Int.reduceToNat, Int.reduceNeg, Nat.reduceAdd, Nat.reduceMul, Nat.reduceSub, reduceCtorEq, hxl, hti2, hil, hn0, hw1, hlt1, hget]
  refine ⟨by omega, ?_⟩
  exact Nxt.mk [] (i + n) (by simp (decide := true) (maxSteps := 4000000) -implicitDefEqProofs only [S0, ↓reduceIte, Int.reduceAdd, Int.reduceSub, Int.reduceToNat, Int.reduceNeg, Nat.reduceAdd, Nat.reduceMul, Nat.reduceSub, reduceCtorEq, hlen2, hil, hfr]) (by simp (decide := true) (maxSteps := 4000000) -implicitDefEqProofs only [S0, ↓reduceIte, Int.reduceAdd, Int.reduceSub, Int.reduceToNat, Int.reduceNeg, Nat.reduceAdd, Nat.reduceMul, Nat.reduceSub, reduceCtorEq, hall, List.map_append, or_true]) (by omega) (by omega)
 ·rw [decide_eq_false hmore]
  have hx : (X.drop i).take n = X.drop i := List.take_of_length_le (by rw [List.length_drop]; omega)
  have hxl : (X.drop i).length = X.length - i := List.length_drop
  rw [hx]
  have hil : (X.take i).length = i := by rw [List.length_take]; omega
  have hall : ((X.take i).map fun s => [S s]) ++ ((X.drop i).map fun s => [S s]) = X.map fun s => [S s] := by rw [← List.map_append, List.take_append_drop]
  have hsum : i + (X.length - i) = X.length := by omega
  have hti2 : List.take i ((X.take i).map fun s => [S s]) = (X.take i).map fun s => [S s] := List.take_of_length_le (by simp; omega)
  have htq : List.take X.length (X.map fun s => [S s]) = X.map fun s => [S s] := tk1 _ _
  simp (decide := true) (maxSteps := 4000000) -implicitDefEqProofs only [S0, ↓reduceIte, Int.reduceAdd, Int.reduceSub, Int.reduceToNat, Int.reduceNeg, Nat.reduceAdd, Nat.reduceMul, Nat.reduceSub, reduceCtorEq, hxl, hil, hti2, hall, hsum, htq]
  refine ⟨by omega, ?_⟩
  refine call_eq cE ?_
  simp (decide := true) (maxSteps := 4000000) -implicitDefEqProofs only [S0, ↓reduceIte, Int.reduceAdd, Int.reduceSub, Int.reduceToNat, Int.reduceNeg, Nat.reduceAdd, Nat.reduceMul, Nat.reduceSub, reduceCtorEq]
end Go.Proofs.Ytpdenloeacaadaa.E
