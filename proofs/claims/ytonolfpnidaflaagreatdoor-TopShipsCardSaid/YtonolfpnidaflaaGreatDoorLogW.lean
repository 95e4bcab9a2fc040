/- Walks: package log: what is written. No conditions. -/
import Derived.Test.YtonolfpnidaflaaGreatDoorLogP
import Derived.Test.YtonolfpnidaflaaGreatDoorRecW
namespace Go.Proofs.YtonolfpnidaflaaGreatDoor.E
open Go
set_option linter.unusedSimpArgs false
set_option linter.unusedVariables false
set_option linter.unusedSectionVars false
set_option maxRecDepth 20000
set_option maxHeartbeats 1000000
theorem toL_eq (a b : ByteArray) : (a.toList == b.toList) = decide (a.data.toList = b.data.toList) := by
 rw [toList_beq, Bool.eq_iff_iff, decide_eq_true_eq, decide_eq_true_eq]
 exact ⟨fun h => h ▸ rfl, ba_ext⟩
theorem chkOp_ok (o : OpS) : Ok Tryz.prog 45 [opV o] (I (chkOp o)) := by
 refine Ok.of_wp (rs := [.tmp 2]) (n := 36) Tryz.func45 rfl rfl rfl (by simp) fo (by kernel_rfl) ?_
 unfold chkOp
 by_cases h1 : o.kind = 1
 ·rw [if_pos h1]
  simp (decide := true) (maxSteps := 4000000) -implicitDefEqProofs only [S0, ↓reduceIte, Int.reduceAdd, Int.reduceSub, Int.reduceToNat, Int.reduceNeg, Nat.reduceAdd, Nat.reduceMul, Nat.reduceSub, reduceCtorEq, h1]
  refine call_eq (chkRules_ok o.rs) ?_
  simp (decide := true) (maxSteps := 4000000) -implicitDefEqProofs only [S0, ↓reduceIte, Int.reduceAdd, Int.reduceSub, Int.reduceToNat, Int.reduceNeg, Nat.reduceAdd, Nat.reduceMul, Nat.reduceSub, reduceCtorEq]
 ·rw [if_neg h1]
  by_cases h2 : o.kind = 2
  ·rw [if_pos h2]
   simp (decide := true) (maxSteps := 4000000) -implicitDefEqProofs only [S0, ↓reduceIte, Int.reduceAdd, Int.reduceSub, Int.reduceToNat, Int.reduceNeg, Nat.reduceAdd, Nat.reduceMul, Nat.reduceSub, reduceCtorEq, h1, h2]
   refine call_eq (Who_ok o.who) ?_
   cases hw : whoOk o.who with
   | true =>
    simp (decide := true) (maxSteps := 4000000) -implicitDefEqProofs only [S0, ↓reduceIte, Int.reduceAdd, Int.reduceSub, Int.reduceToNat, Int.reduceNeg, Nat.reduceAdd, Nat.reduceMul, Nat.reduceSub, reduceCtorEq]
    refine call_eq (recCheck_ok o.rcd) ?_
    simp (decide := true) (maxSteps := 4000000) -implicitDefEqProofs only [S0, ↓reduceIte, Int.reduceAdd, Int.reduceSub, Int.reduceToNat, Int.reduceNeg, Nat.reduceAdd, Nat.reduceMul, Nat.reduceSub, reduceCtorEq]
   | false => simp (decide := true) (maxSteps := 4000000) -implicitDefEqProofs only [S0, ↓reduceIte, Int.reduceAdd, Int.reduceSub, Int.reduceToNat, Int.reduceNeg, Nat.reduceAdd, Nat.reduceMul, Nat.reduceSub, reduceCtorEq]
  ·rw [if_neg h2]
   by_cases h3 : o.kind = 3
   ·rw [if_pos h3]
    simp (decide := true) (maxSteps := 4000000) -implicitDefEqProofs only [S0, ↓reduceIte, Int.reduceAdd, Int.reduceSub, Int.reduceToNat, Int.reduceNeg, Nat.reduceAdd, Nat.reduceMul, Nat.reduceSub, reduceCtorEq, h1, h2, h3]
    refine call_eq (Who_ok o.who) ?_
    cases hw : whoOk o.who with
    | true =>
     simp (decide := true) (maxSteps := 4000000) -implicitDefEqProofs only [S0, ↓reduceIte, Int.reduceAdd, Int.reduceSub, Int.reduceToNat, Int.reduceNeg, Nat.reduceAdd, Nat.reduceMul, Nat.reduceSub, reduceCtorEq]
     refine call_eq (Cats_ok o.rcd.cats) ?_
     rw [show (decide (0 ≤ o.rcd.cats ∧ o.rcd.cats < 256)) = catOk o.rcd.cats from rfl]
     cases hc : catOk o.rcd.cats with
     | true =>
      simp (decide := true) (maxSteps := 4000000) -implicitDefEqProofs only [S0, ↓reduceIte, Int.reduceAdd, Int.reduceSub, Int.reduceToNat, Int.reduceNeg, Nat.reduceAdd, Nat.reduceMul, Nat.reduceSub, reduceCtorEq]
      refine call_eq (Id_ok o.id) ?_
      cases hi : idOk o.id with
      | true => simp (decide := true) (maxSteps := 4000000) -implicitDefEqProofs only [S0, ↓reduceIte, Int.reduceAdd, Int.reduceSub, Int.reduceToNat, Int.reduceNeg, Nat.reduceAdd, Nat.reduceMul, Nat.reduceSub, reduceCtorEq]
      | false => simp (decide := true) (maxSteps := 4000000) -implicitDefEqProofs only [S0, ↓reduceIte, Int.reduceAdd, Int.reduceSub, Int.reduceToNat, Int.reduceNeg, Nat.reduceAdd, Nat.reduceMul, Nat.reduceSub, reduceCtorEq]
     | false => simp (decide := true) (maxSteps := 4000000) -implicitDefEqProofs only [S0, ↓reduceIte, Int.reduceAdd, Int.reduceSub, Int.reduceToNat, Int.reduceNeg, Nat.reduceAdd, Nat.reduceMul, Nat.reduceSub, reduceCtorEq]
    | false =>
     simp (decide := true) (maxSteps := 4000000) -implicitDefEqProofs only [S0, ↓reduceIte, Int.reduceAdd, Int.reduceSub, Int.reduceToNat, Int.reduceNeg, Nat.reduceAdd, Nat.reduceMul, Nat.reduceSub, reduceCtorEq]
     exact I_eq (by simp)
   ·rw [if_neg h3]
    simp (decide := true) (maxSteps := 4000000) -implicitDefEqProofs only [S0, ↓reduceIte, Int.reduceAdd, Int.reduceSub, Int.reduceToNat, Int.reduceNeg, Nat.reduceAdd, Nat.reduceMul, Nat.reduceSub, reduceCtorEq, h1, h2, h3]
theorem sumL_lt : ∀ (l : List UInt8) (i n : Nat), n < 65521 → sumFrom i n l < 65521
 | [], i, n, h => h
 | b :: l, i, n, h => by rw [sumFrom]; exact sumL_lt l _ _ (Nat.mod_lt _ (by omega))
theorem Sum_ok (s : ByteArray) (hs : s.size ≤ 281474976710656) : Ok Tryz.prog 48 [S s] (I (sumL s.data.toList : Nat)) := by
 refine Ok.of_wp (rs := [.tmp 2]) (n := 22) Tryz.func48 rfl rfl rfl (by simp) fo (by kernel_rfl) ?_
 simp (decide := true) (maxSteps := 4000000) -implicitDefEqProofs only [S0, ↓reduceIte, Int.reduceAdd, Int.reduceSub, Int.reduceToNat, Int.reduceNeg, Nat.reduceAdd, Nat.reduceMul, Nat.reduceSub, reduceCtorEq]
 have hl := size_eq s
 refine ALoop.st [0, 3, 6, 7] (fun (q : Nat × Nat) => [S s, I q.2, I s.size, I q.1]) (fun _ => []) (fun q => q.1 ≤ s.size ∧ q.2 < 65521 ∧ sumFrom q.1 q.2 (s.data.toList.drop q.1) = sumL s.data.toList) (fun q => s.size - q.1) [] (0, 0) (by simp (decide := true) (maxSteps := 4000000) -implicitDefEqProofs only [S0, ↓reduceIte, Int.reduceAdd, Int.reduceSub, Int.reduceToNat, Int.reduceNeg, Nat.reduceAdd, Nat.reduceMul, Nat.reduceSub, reduceCtorEq]) (by simp (decide := true) (maxSteps := 4000000) -implicitDefEqProofs only [S0, ↓reduceIte, Int.reduceAdd, Int.reduceSub, Int.reduceToNat, Int.reduceNeg, Nat.reduceAdd, Nat.reduceMul, Nat.reduceSub, reduceCtorEq]) ⟨by simp only; omega, by simp only; omega, rfl⟩ ?_
 rintro ⟨i, n⟩ ⟨hi, hn, hu⟩
 simp only at hi hn hu
 by_cases h : i < s.size
 ·obtain ⟨c, hc⟩ := get_lt (l := s.data.toList) (i := i) (by omega)
  have h' : (i : Int) < s.size := by omega
  have c8 := c.toNat_lt
  have hm : (i + 1) * c.toNat ≤ (i + 1) * 255 := Nat.mul_le_mul_left _ (by omega)
  have w1 := wr_add1 h' (by omega)
  have w2 : IntKind.i64.wrap (((i + 1 : Nat) : Int) * (c.toNat : Int)) = (((i + 1) * c.toNat : Nat) : Int) := by rw [wr_i64 (by rw [← Int.natCast_mul]; omega) (by rw [← Int.natCast_mul]; omega), Int.natCast_mul]
  have w3 : IntKind.i64.wrap ((n : Int) + (((i + 1) * c.toNat : Nat) : Int)) = ((n + (i + 1) * c.toNat : Nat) : Int) := by rw [wr_i64 (by omega) (by omega)]; omega
  have w4 : IntKind.i64.wrap ((c.toNat : Int)) = c.toNat := by rw [wr_i64 (by omega) (by omega)]
  rw [get_drop hc, sumFrom] at hu
  have w5 : (((n + (i + 1) * c.toNat : Nat) : Int)).tmod 65521 = (((n + (i + 1) * c.toNat) % 65521 : Nat) : Int) := by
   rw [Int.tmod_eq_emod_of_nonneg (by omega)]
   omega
  simp (decide := true) (maxSteps := 4000000) -implicitDefEqProofs only [S0, ↓reduceIte, Int.reduceAdd, Int.reduceSub, Int.reduceToNat, Int.reduceNeg, Nat.reduceAdd, Nat.reduceMul, Nat.reduceSub, reduceCtorEq, h', hc, w1, w2, w3, w4, w5]
  exact Nxt.mk [] (i + 1, (n + (i + 1) * c.toNat) % 65521) (by simp (decide := true) (maxSteps := 4000000) -implicitDefEqProofs only [S0, ↓reduceIte, Int.reduceAdd, Int.reduceSub, Int.reduceToNat, Int.reduceNeg, Nat.reduceAdd, Nat.reduceMul, Nat.reduceSub, reduceCtorEq]) (by simp (decide := true) (maxSteps := 4000000) -implicitDefEqProofs only [S0, ↓reduceIte, Int.reduceAdd, Int.reduceSub, Int.reduceToNat, Int.reduceNeg, Nat.reduceAdd, Nat.reduceMul, Nat.reduceSub, reduceCtorEq]) ⟨by simp only; omega, Nat.mod_lt _ (by omega), hu⟩ (by simp only; omega)
 ·have h' : ¬ (i : Int) < s.size := by omega
  rw [drop_all (by omega), sumFrom] at hu
  simp (decide := true) (maxSteps := 4000000) -implicitDefEqProofs only [S0, ↓reduceIte, Int.reduceAdd, Int.reduceSub, Int.reduceToNat, Int.reduceNeg, Nat.reduceAdd, Nat.reduceMul, Nat.reduceSub, reduceCtorEq, h']
  rw [hu]
theorem numsL_app (a b : List Int) : numsL (a ++ b) = numsL a ++ numsL b := by simp [numsL]
theorem numsL_len : ∀ {l : List Int}, (∀ n ∈ l, inI n) → (numsL l).length ≤ 22 * l.length
 | [], _ => by simp [numsL]
 | n :: l, h => by
  have h1 := Lib.itoa_length_le n (h n (by simp)).1 (h n (by simp)).2
  have h2 := numsL_len fun m hm => h m (List.mem_cons_of_mem n hm)
  simp only [numsL, List.flatMap_cons, List.length_append, List.length_cons] at h2 ⊢
  omega
theorem nums_ok (l : List Int) (hl : l.length ≤ 100) (hr : ∀ n ∈ l, inI n) : Ok Tryz.prog 88 [ints l] (S (bs (numsL l))) := by
 refine Ok.of_wp (rs := [.tmp 2]) (n := 19) Tryz.func88 rfl rfl rfl (by simp) fo (by kernel_rfl) ?_
 simp (decide := true) (maxSteps := 4000000) -implicitDefEqProofs only [S0, ↓reduceIte, Int.reduceAdd, Int.reduceSub, Int.reduceToNat, Int.reduceNeg, Nat.reduceAdd, Nat.reduceMul, Nat.reduceSub, reduceCtorEq]
 refine ALoop.st [3, 6, 7, 8] (fun (i : Nat) => [S (bs (numsL (l.take i))), ints l, I l.length, I i]) (fun _ => []) (fun i => i ≤ l.length) (fun i => l.length - i) [] 0 (by simp (decide := true) (maxSteps := 4000000) -implicitDefEqProofs only [S0, ↓reduceIte, Int.reduceAdd, Int.reduceSub, Int.reduceToNat, Int.reduceNeg, Nat.reduceAdd, Nat.reduceMul, Nat.reduceSub, reduceCtorEq]; try rfl) (by simp (decide := true) (maxSteps := 4000000) -implicitDefEqProofs only [S0, ↓reduceIte, Int.reduceAdd, Int.reduceSub, Int.reduceToNat, Int.reduceNeg, Nat.reduceAdd, Nat.reduceMul, Nat.reduceSub, reduceCtorEq]) (by omega) ?_
 intro i hi
 by_cases h : i < l.length
 ·have h' : (i : Int) < l.length := by omega
  obtain ⟨n, hn⟩ := get_lt (l := l) (i := i) h'
  have hn' := hr n (List.mem_of_getElem? hn)
  simp (decide := true) (maxSteps := 4000000) -implicitDefEqProofs only [S0, ↓reduceIte, Int.reduceAdd, Int.reduceSub, Int.reduceToNat, Int.reduceNeg, Nat.reduceAdd, Nat.reduceMul, Nat.reduceSub, reduceCtorEq, h', hn, wr_add1 h' (by omega)]
  refine call_eq (Itoa_ok n hn') ?_
  have z1 := Lib.itoa_length_le n hn'.1 hn'.2
  have z2 := numsL_len (l := l.take i) fun m hm => hr m (List.mem_of_mem_take hm)
  rw [List.length_take] at z2
  have z3 : (⟨#[32]⟩ : ByteArray).size = 1 := rfl
  have e1 : bs (numsL (l.take i)) ++ (⟨#[32]⟩ ++ bs (Lib.itoa n)) = bs (numsL (l.take (i + 1))) := ba_ext (by rw [take_get hn, numsL_app]; simp [ba_app, bs, numsL])
  simp (decide := true) (maxSteps := 4000000) -implicitDefEqProofs only [S0, ↓reduceIte, Int.reduceAdd, Int.reduceSub, Int.reduceToNat, Int.reduceNeg, Nat.reduceAdd, Nat.reduceMul, Nat.reduceSub, reduceCtorEq, ba_size, bs_size, z3, e1, wr_add1 h' (by omega)]
  exact ⟨by omega, by omega, Nxt.mk [] (i + 1) (by simp (decide := true) (maxSteps := 4000000) -implicitDefEqProofs only [S0, ↓reduceIte, Int.reduceAdd, Int.reduceSub, Int.reduceToNat, Int.reduceNeg, Nat.reduceAdd, Nat.reduceMul, Nat.reduceSub, reduceCtorEq, wr_add1 h' (by omega)]) (by simp (decide := true) (maxSteps := 4000000) -implicitDefEqProofs only [S0, ↓reduceIte, Int.reduceAdd, Int.reduceSub, Int.reduceToNat, Int.reduceNeg, Nat.reduceAdd, Nat.reduceMul, Nat.reduceSub, reduceCtorEq]) (by omega) (by omega)⟩
 ·have h' : ¬ (i : Int) < l.length := by omega
  simp (decide := true) (maxSteps := 4000000) -implicitDefEqProofs only [S0, ↓reduceIte, Int.reduceAdd, Int.reduceSub, Int.reduceToNat, Int.reduceNeg, Nat.reduceAdd, Nat.reduceMul, Nat.reduceSub, reduceCtorEq, h']
  rw [List.take_of_length_le (by omega)]
theorem whoOk_I {w : Wh} (h : whoOk w = true) : whoI w := by
 have := of_decide_eq_true h
 exact ⟨⟨by omega, by omega⟩, ⟨by omega, by omega⟩, ⟨by omega, by omega⟩⟩
/-- What is so of a rule that may be. -/
structure GoodRl (r : Rl) : Prop where
 role : -1 ≤ r.role ∧ r.role < 8
 why : -1 ≤ r.why ∧ r.why < 4
 fr : 0 ≤ r.fr ∧ r.fr < r.to ∧ r.to ≤ 1000
 cats : 0 ≤ r.cats ∧ r.cats < 256
theorem goodRl_of {r : Rl} (h : oneE r = 0) : GoodRl r := by
 unfold oneE at h
 split at h
 ·rename_i h1
  have h2 := of_decide_eq_true h1
  split at h
  ·exact ⟨by omega, by omega, by omega, by omega⟩
  ·cases h
 ·cases h
theorem chkR_good : ∀ {l : List Rl}, chkR l = 0 → ∀ r ∈ l, GoodRl r
 | [], _, r, hr => by cases hr
 | x :: l, h, r, hr => by
  rw [chkR] at h
  split at h
  ·rename_i h1
   rcases List.mem_cons.1 hr with rfl | hr
   ·exact goodRl_of h1
   ·exact chkR_good h r hr
  ·rename_i h1; exact absurd h h1
theorem chkRs_good {l : List Rl} (h : chkRs l = 0) : l.length ≤ 20 ∧ ∀ r ∈ l, GoodRl r := by
 unfold chkRs at h
 split at h
 ·cases h
 ·exact ⟨by omega, chkR_good h⟩
/-- What is so of an operation that may be. -/
theorem chkOp_cases {o : OpS} (h : chkOp o = 0) : (o.kind = 1 ∧ chkRs o.rs = 0) ∨ (o.kind = 2 ∧ whoOk o.who = true ∧ chkRec o.rcd = 0) ∨ (o.kind = 3 ∧ whoOk o.who = true ∧ (0 ≤ o.rcd.cats ∧ o.rcd.cats < 256) ∧ idOk o.id = true) := by
 unfold chkOp at h
 split at h
 ·rename_i h1; exact .inl ⟨h1, h⟩
 ·split at h
  ·rename_i h2
   split at h
   ·rename_i h3; exact .inr (.inl ⟨h2, h3, h⟩)
   ·cases h
  ·split at h
   ·rename_i h3
    split at h
    ·rename_i h4
     rw [Bool.and_eq_true] at h4
     split at h
     ·rename_i h5; exact .inr (.inr ⟨h3, h4.1, of_decide_eq_true h4.2, h5⟩)
     ·cases h
    ·cases h
   ·cases h
theorem ruleL_len {r : Rl} (h : GoodRl r) : (ruleL r).length ≤ 54 := by
 have hn : ∀ {n : Int}, -1 ≤ n → n ≤ 1000 → (Lib.itoa n).length ≤ 9 := fun a b => itoa_len ⟨by omega, by omega⟩
 have h1 := hn h.role.1 (by have := h.role; omega)
 have h2 := hn h.why.1 (by have := h.why; omega)
 have h3 := hn (n := r.fr) (by have := h.fr; omega) (by have := h.fr; omega)
 have h4 := hn (n := r.to) (by have := h.fr; omega) (by have := h.fr; omega)
 have h5 := hn (n := r.cats) (by have := h.cats; omega) (by have := h.cats; omega)
 have h6 : (yn r.allow).length ≤ 3 := by cases r.allow <;> decide
 simp only [ruleL, numsL, List.flatMap_cons, List.flatMap_nil, List.length_append, List.length_cons, List.length_nil]
 omega
theorem rulesL_len : ∀ {l : List Rl}, (∀ r ∈ l, GoodRl r) → (l.flatMap ruleL).length ≤ 54 * l.length
 | [], _ => by simp
 | r :: l, h => by
  have h1 := ruleL_len (h r (by simp))
  have h2 := rulesL_len fun x hx => h x (List.mem_cons_of_mem r hx)
  simp only [List.flatMap_cons, List.length_append, List.length_cons]
  omega
theorem good_nums {r : Rl} (h : GoodRl r) : ∀ n ∈ [r.role, r.why, r.fr, r.to, r.cats], inI n := by
 obtain ⟨h1, h2, h3, h4⟩ := h
 intro n hn
 simp only [List.mem_cons, List.not_mem_nil, or_false] at hn
 rcases hn with rfl | rfl | rfl | rfl | rfl <;> exact ⟨by omega, by omega⟩
theorem who_nums {w : Wh} (h : whoI w) : ∀ n ∈ [w.role, w.why, w.time], inI n := by
 obtain ⟨h1, h2, h3⟩ := h
 intro n hn
 simp only [List.mem_cons, List.not_mem_nil, or_false] at hn
 rcases hn with rfl | rfl | rfl <;> assumption
theorem plain_ok (o : OpS) (h : chkOp o = 0) (hw : whoI o.who) : Ok Tryz.prog 46 [opV o] (S (bs (plainL o))) := by
 refine Ok.of_wp (rs := [.tmp 2]) (n := 78) Tryz.func46 rfl rfl rfl (by simp) fo (by kernel_rfl) ?_
 have hwn := who_nums hw
 have hwl := numsL_len hwn
 simp only [List.length_cons, List.length_nil] at hwl
 simp (decide := true) (maxSteps := 4000000) -implicitDefEqProofs only [S0, ↓reduceIte, Int.reduceAdd, Int.reduceSub, Int.reduceToNat, Int.reduceNeg, Nat.reduceAdd, Nat.reduceMul, Nat.reduceSub, reduceCtorEq]
 refine call_eq (nums_ok [o.who.role, o.who.why, o.who.time] (by simp) hwn) ?_
 rcases chkOp_cases h with ⟨h1, h2⟩ | ⟨h1, h2, h3⟩ | ⟨h1, h2, h3, h4⟩
 ·have h20 : ¬ o.kind = 2 := by omega
  have h30 : ¬ o.kind = 3 := by omega
  rw [plainL, if_neg h20, if_neg h30]
  obtain ⟨hl, hg⟩ := chkRs_good h2
  simp (decide := true) (maxSteps := 4000000) -implicitDefEqProofs only [S0, ↓reduceIte, Int.reduceAdd, Int.reduceSub, Int.reduceToNat, Int.reduceNeg, Nat.reduceAdd, Nat.reduceMul, Nat.reduceSub, reduceCtorEq, h20, h30]
  refine ALoop.st [6, 50, 51, 52] (fun (i : Nat) => [S (bs ([114, 117, 108, 101, 115] ++ (o.rs.take i).flatMap ruleL)), rules o.rs, I o.rs.length, I i]) (fun _ => []) (fun i => i ≤ o.rs.length) (fun i => o.rs.length - i) [] 0 (by simp (decide := true) (maxSteps := 4000000) -implicitDefEqProofs only [S0, ↓reduceIte, Int.reduceAdd, Int.reduceSub, Int.reduceToNat, Int.reduceNeg, Nat.reduceAdd, Nat.reduceMul, Nat.reduceSub, reduceCtorEq]; try rfl) (by simp (decide := true) (maxSteps := 4000000) -implicitDefEqProofs only [S0, ↓reduceIte, Int.reduceAdd, Int.reduceSub, Int.reduceToNat, Int.reduceNeg, Nat.reduceAdd, Nat.reduceMul, Nat.reduceSub, reduceCtorEq]) (by omega) ?_
  intro i hi
  by_cases hlt : i < o.rs.length
  ·have h' : (i : Int) < o.rs.length := by omega
   obtain ⟨r, hr⟩ := lt_get hlt
   have hgr := hg r (List.mem_of_getElem? hr)
   simp (decide := true) (maxSteps := 4000000) -implicitDefEqProofs only [S0, ↓reduceIte, Int.reduceAdd, Int.reduceSub, Int.reduceToNat, Int.reduceNeg, Nat.reduceAdd, Nat.reduceMul, Nat.reduceSub, reduceCtorEq, h', hr, wr_add1 h' (by omega)]
   refine call_eq (nums_ok [r.role, r.why, r.fr, r.to, r.cats] (by simp) (good_nums hgr)) ?_
   have hnl := numsL_len (good_nums hgr)
   have hrl := rulesL_len (l := o.rs.take i) fun x hx => hg x (List.mem_of_mem_take hx)
   rw [List.length_take] at hrl
   simp only [List.length_cons, List.length_nil] at hnl
   have k1 : (⟨#[32, 121, 101, 115]⟩ : ByteArray).size = 4 := rfl
   have k2 : (⟨#[32, 110, 111]⟩ : ByteArray).size = 3 := rfl
   have k3 : (114 :: 117 :: 108 :: 101 :: 115 :: List.flatMap ruleL (List.take i o.rs)).length = 5 + (List.flatMap ruleL (List.take i o.rs)).length := by simp; omega
   cases ha : r.allow with
   | true =>
    have e1 : bs (114 :: 117 :: 108 :: 101 :: 115 :: List.flatMap ruleL (List.take i o.rs)) ++ bs (numsL [r.role, r.why, r.fr, r.to, r.cats]) ++ ⟨#[32, 121, 101, 115]⟩ = bs (114 :: 117 :: 108 :: 101 :: 115 :: List.flatMap ruleL (List.take (i + 1) o.rs)) := ba_ext (by rw [take_get hr]; simp [ba_app, bs, ruleL, ha, yn])
    simp (decide := true) (maxSteps := 4000000) -implicitDefEqProofs only [S0, ↓reduceIte, Int.reduceAdd, Int.reduceSub, Int.reduceToNat, Int.reduceNeg, Nat.reduceAdd, Nat.reduceMul, Nat.reduceSub, reduceCtorEq, ba_size, bs_size, k1, k3, e1]
    exact ⟨by omega, by omega, Nxt.mk [] (i + 1) (by simp (decide := true) (maxSteps := 4000000) -implicitDefEqProofs only [S0, ↓reduceIte, Int.reduceAdd, Int.reduceSub, Int.reduceToNat, Int.reduceNeg, Nat.reduceAdd, Nat.reduceMul, Nat.reduceSub, reduceCtorEq, wr_add1 h' (by omega)]) (by simp (decide := true) (maxSteps := 4000000) -implicitDefEqProofs only [S0, ↓reduceIte, Int.reduceAdd, Int.reduceSub, Int.reduceToNat, Int.reduceNeg, Nat.reduceAdd, Nat.reduceMul, Nat.reduceSub, reduceCtorEq]) (by omega) (by omega)⟩
   | false =>
    have e1 : bs (114 :: 117 :: 108 :: 101 :: 115 :: List.flatMap ruleL (List.take i o.rs)) ++ bs (numsL [r.role, r.why, r.fr, r.to, r.cats]) ++ ⟨#[32, 110, 111]⟩ = bs (114 :: 117 :: 108 :: 101 :: 115 :: List.flatMap ruleL (List.take (i + 1) o.rs)) := ba_ext (by rw [take_get hr]; simp [ba_app, bs, ruleL, ha, yn])
    simp (decide := true) (maxSteps := 4000000) -implicitDefEqProofs only [S0, ↓reduceIte, Int.reduceAdd, Int.reduceSub, Int.reduceToNat, Int.reduceNeg, Nat.reduceAdd, Nat.reduceMul, Nat.reduceSub, reduceCtorEq, ba_size, bs_size, k2, k3, e1]
    exact ⟨by omega, by omega, Nxt.mk [] (i + 1) (by simp (decide := true) (maxSteps := 4000000) -implicitDefEqProofs only [S0, ↓reduceIte, Int.reduceAdd, Int.reduceSub, Int.reduceToNat, Int.reduceNeg, Nat.reduceAdd, Nat.reduceMul, Nat.reduceSub, reduceCtorEq, wr_add1 h' (by omega)]) (by simp (decide := true) (maxSteps := 4000000) -implicitDefEqProofs only [S0, ↓reduceIte, Int.reduceAdd, Int.reduceSub, Int.reduceToNat, Int.reduceNeg, Nat.reduceAdd, Nat.reduceMul, Nat.reduceSub, reduceCtorEq]) (by omega) (by omega)⟩
  ·have h' : ¬ (i : Int) < o.rs.length := by omega
   simp (decide := true) (maxSteps := 4000000) -implicitDefEqProofs only [S0, ↓reduceIte, Int.reduceAdd, Int.reduceSub, Int.reduceToNat, Int.reduceNeg, Nat.reduceAdd, Nat.reduceMul, Nat.reduceSub, reduceCtorEq, h']
   rw [List.take_of_length_le (by omega)]
 ·rw [plainL, if_pos h1]
  simp (decide := true) (maxSteps := 4000000) -implicitDefEqProofs only [S0, ↓reduceIte, Int.reduceAdd, Int.reduceSub, Int.reduceToNat, Int.reduceNeg, Nat.reduceAdd, Nat.reduceMul, Nat.reduceSub, reduceCtorEq, h1]
  refine call_eq (recWrite_ok o.rcd) ?_
  have k1 : (⟨#[112, 117, 116]⟩ : ByteArray).size = 3 := rfl
  have k2 : (⟨#[32]⟩ : ByteArray).size = 1 := rfl
  have hwr := wrL_len h3
  simp (decide := true) (maxSteps := 4000000) -implicitDefEqProofs only [S0, ↓reduceIte, Int.reduceAdd, Int.reduceSub, Int.reduceToNat, Int.reduceNeg, Nat.reduceAdd, Nat.reduceMul, Nat.reduceSub, reduceCtorEq, ba_size, bs_size, k1, k2]
  exact ⟨by omega, by omega, by omega, S_eq (ba_ext (by simp [ba_app, bs]))⟩
 ·have h20 : ¬ o.kind = 2 := by omega
  rw [plainL, if_neg h20, if_pos h1]
  have k1 : (⟨#[99, 117, 116]⟩ : ByteArray).size = 3 := rfl
  have k2 : (⟨#[32]⟩ : ByteArray).size = 1 := rfl
  have hid := id_size h4
  have hcn : ∀ n ∈ [o.rcd.cats], inI n := fun n hn => by simp at hn; subst hn; exact ⟨by omega, by omega⟩
  have hcl := numsL_len hcn
  simp only [List.length_cons, List.length_nil] at hcl
  simp (decide := true) (maxSteps := 4000000) -implicitDefEqProofs only [S0, ↓reduceIte, Int.reduceAdd, Int.reduceSub, Int.reduceToNat, Int.reduceNeg, Nat.reduceAdd, Nat.reduceMul, Nat.reduceSub, reduceCtorEq, h1, h20, ba_size, bs_size, k1, k2]
  refine ⟨by omega, by omega, by omega, ?_⟩
  refine call_eq (nums_ok [o.rcd.cats] (by simp) hcn) ?_
  simp (decide := true) (maxSteps := 4000000) -implicitDefEqProofs only [S0, ↓reduceIte, Int.reduceAdd, Int.reduceSub, Int.reduceToNat, Int.reduceNeg, Nat.reduceAdd, Nat.reduceMul, Nat.reduceSub, reduceCtorEq, ba_size, bs_size, k1, k2]
  exact ⟨by omega, S_eq (ba_ext (by simp [ba_app, bs]))⟩
theorem plainL_len {o : OpS} (h : chkOp o = 0) : (plainL o).length ≤ 1200 := by
 rcases chkOp_cases h with ⟨h1, h2⟩ | ⟨h1, h2, h3⟩ | ⟨h1, h2, h3, h4⟩
 ·obtain ⟨hl, hg⟩ := chkRs_good h2
  have := rulesL_len hg
  rw [plainL, if_neg (by omega), if_neg (by omega)]
  simp only [List.length_append, List.length_cons, List.length_nil]
  omega
 ·have h5 := numsL_len (who_nums (whoOk_I h2))
  have h6 := wrL_len h3
  rw [plainL, if_pos h1]
  simp only [List.length_append, List.length_cons, List.length_nil] at h5 ⊢
  omega
 ·have h5 := numsL_len (who_nums (whoOk_I h2))
  have h6 := id_size h4
  rw [size_eq] at h6
  have h7 := numsL_len (l := [o.rcd.cats]) fun n hn => by simp at hn; subst hn; exact ⟨by omega, by omega⟩
  rw [plainL, if_neg (by omega), if_pos h1]
  simp only [List.length_append, List.length_cons, List.length_nil] at h5 h7 ⊢
  omega
theorem sumI (l : List UInt8) : inI (sumL l : Nat) := by
 have := sumL_lt l 0 0 (by omega)
 unfold inI sumL
 omega
theorem lineL_len {o : OpS} (h : chkOp o = 0) : (lineL o).length ≤ 1300 := by
 have h1 := plainL_len h
 have h2 := Lib.itoa_length_le _ (sumI (plainL o)).1 (sumI (plainL o)).2
 simp only [lineL, List.length_append, List.length_cons, List.length_nil]
 omega
theorem logWrite_ok (o : OpS) (hw : whoI o.who) : Ok Tryz.prog 12 [opV o] (.tup [S (bs (writeL o)), I (chkOp o)]) := by
 refine Ok.of_wp (rs := [.tmp 2, .tmp 3]) (n := 20) Tryz.func12 rfl rfl rfl (by simp) fo (by kernel_rfl) ?_
 simp (decide := true) (maxSteps := 4000000) -implicitDefEqProofs only [S0, ↓reduceIte, Int.reduceAdd, Int.reduceSub, Int.reduceToNat, Int.reduceNeg, Nat.reduceAdd, Nat.reduceMul, Nat.reduceSub, reduceCtorEq]
 refine call_eq (chkOp_ok o) ?_
 unfold writeL
 by_cases hc : chkOp o = 0
 ·rw [if_pos hc]
  simp (decide := true) (maxSteps := 4000000) -implicitDefEqProofs only [S0, ↓reduceIte, Int.reduceAdd, Int.reduceSub, Int.reduceToNat, Int.reduceNeg, Nat.reduceAdd, Nat.reduceMul, Nat.reduceSub, reduceCtorEq, hc]
  refine call_eq (plain_ok o hc hw) ?_
  have hl := plainL_len hc
  have k1 : (⟨#[32, 61]⟩ : ByteArray).size = 2 := rfl
  have k2 : (⟨#[10]⟩ : ByteArray).size = 1 := rfl
  simp (decide := true) (maxSteps := 4000000) -implicitDefEqProofs only [S0, ↓reduceIte, Int.reduceAdd, Int.reduceSub, Int.reduceToNat, Int.reduceNeg, Nat.reduceAdd, Nat.reduceMul, Nat.reduceSub, reduceCtorEq, ba_size, bs_size, k1, k2]
  refine ⟨by omega, ?_⟩
  refine call_eq (Sum_ok (bs (plainL o)) (by rw [bs_size]; omega)) ?_
  rw [bs_list]
  simp (decide := true) (maxSteps := 4000000) -implicitDefEqProofs only [S0, ↓reduceIte, Int.reduceAdd, Int.reduceSub, Int.reduceToNat, Int.reduceNeg, Nat.reduceAdd, Nat.reduceMul, Nat.reduceSub, reduceCtorEq]
  refine call_eq (Itoa_ok _ (sumI (plainL o))) ?_
  have hl2 := Lib.itoa_length_le _ (sumI (plainL o)).1 (sumI (plainL o)).2
  simp (decide := true) (maxSteps := 4000000) -implicitDefEqProofs only [S0, ↓reduceIte, Int.reduceAdd, Int.reduceSub, Int.reduceToNat, Int.reduceNeg, Nat.reduceAdd, Nat.reduceMul, Nat.reduceSub, reduceCtorEq, ba_size, bs_size, k1, k2]
  exact ⟨by omega, by omega, S_eq (ba_ext (by simp [ba_app, bs, lineL]))⟩
 ·rw [if_neg hc]
  simp (decide := true) (maxSteps := 4000000) -implicitDefEqProofs only [S0, ↓reduceIte, Int.reduceAdd, Int.reduceSub, Int.reduceToNat, Int.reduceNeg, Nat.reduceAdd, Nat.reduceMul, Nat.reduceSub, reduceCtorEq, hc]
  rfl
/-- The words, as they stand in memory. -/
abbrev wsB (w : Ws) : Blk := .cells 182 [.list 1 ((w.l.map bs).map fun s => [S s]), B w.bad]
theorem next_ok (w : Ws) : OkH Tryz.prog 119 [.ptr (.e 0) 0 0] [wsB w] (S (bs (nxt w).1)) [(0, wsB (nxt w).2)] := by
 refine OkH.of_wp (rs := [.tmp 2]) (n := 28) [] Tryz.func119 rfl rfl rfl (by simp) fo (by kernel_rfl) ?_
 obtain ⟨l, bad⟩ := w
 cases l with
 | nil =>
  simp (decide := true) (maxSteps := 4000000) -implicitDefEqProofs only [S0, ↓reduceIte, Int.reduceAdd, Int.reduceSub, Int.reduceToNat, Int.reduceNeg, Nat.reduceAdd, Nat.reduceMul, Nat.reduceSub, reduceCtorEq]
  exact ⟨rfl, rfl, rfl⟩
 | cons s l =>
  simp (decide := true) (maxSteps := 4000000) -implicitDefEqProofs only [S0, ↓reduceIte, Int.reduceAdd, Int.reduceSub, Int.reduceToNat, Int.reduceNeg, Nat.reduceAdd, Nat.reduceMul, Nat.reduceSub, reduceCtorEq]
  rw [if_neg (by omega)]
  exact ⟨by omega, Int.le_refl _, rfl, by rw [List.take_of_length_le (by simp)]; rfl, rfl⟩
/-- No word is too long. -/
def wsOk (w : Ws) : Prop := ∀ s ∈ w.l, s.length < 4294967281
theorem wsOk_nxt {w : Ws} (h : wsOk w) : wsOk (nxt w).2 ∧ (nxt w).1.length < 4294967281 := by
 obtain ⟨l, bad⟩ := w
 cases l with
 | nil => exact ⟨fun s hs => (by cases hs), by simp [nxt]⟩
 | cons s l => exact ⟨fun x hx => h x (List.mem_cons_of_mem _ hx), h s (List.mem_cons_self ..)⟩
theorem wsOk_num {w : Ws} (h : wsOk w) : wsOk (numW w).2 := (wsOk_nxt h).1
theorem num_ok (w : Ws) (h : wsOk w) : OkH Tryz.prog 120 [.ptr (.e 0) 0 0] [wsB w] (I (numW w).1) [(0, wsB (numW w).2)] := by
 refine OkH.of_wp (rs := [.tmp 2]) (n := 30) [] Tryz.func120 rfl rfl rfl (by simp) fo (by kernel_rfl) ?_
 obtain ⟨h1, h2⟩ := wsOk_nxt h
 unfold numW
 simp (decide := true) (maxSteps := 4000000) -implicitDefEqProofs only [S0, ↓reduceIte, Int.reduceAdd, Int.reduceSub, Int.reduceToNat, Int.reduceNeg, Nat.reduceAdd, Nat.reduceMul, Nat.reduceSub, reduceCtorEq]
 refine callH (next_ok w) [.e 0] ?_
 generalize nxt w = p at *
 obtain ⟨s, l, bad⟩ := p
 simp only at h1 h2
 simp (decide := true) (maxSteps := 4000000) -implicitDefEqProofs only [S0, ↓reduceIte, Int.reduceAdd, Int.reduceSub, Int.reduceToNat, Int.reduceNeg, Nat.reduceAdd, Nat.reduceMul, Nat.reduceSub, reduceCtorEq]
 refine call_eq (Atoi_ok (bs s) (by rw [bs_size]; omega)) ?_
 rw [bs_list]
 unfold errA numOk numA
 cases hb : Lib.atoiAll s with
 | ok v =>
  have hv := Lib.atoiAll_bounds hb
  by_cases hb9 : (s.length : Int) > 9
  ·have hN : (if s.length ≤ 9 ∧ Lib.itoa v = s then some v else none) = none := if_neg (by omega)
   simp (decide := true) (maxSteps := 4000000) -implicitDefEqProofs only [S0, ↓reduceIte, Int.reduceAdd, Int.reduceSub, Int.reduceToNat, Int.reduceNeg, Nat.reduceAdd, Nat.reduceMul, Nat.reduceSub, reduceCtorEq, hb9, bs_size, hN]
   exact B_eq (by simp)
  ·have hb8 : s.length ≤ 9 := by omega
   simp (decide := true) (maxSteps := 4000000) -implicitDefEqProofs only [S0, ↓reduceIte, Int.reduceAdd, Int.reduceSub, Int.reduceToNat, Int.reduceNeg, Nat.reduceAdd, Nat.reduceMul, Nat.reduceSub, reduceCtorEq, hb9, bs_size]
   refine call_eq (Itoa_ok v hv) ?_
   by_cases hbi : Lib.itoa v = s
   ·have hN : (if s.length ≤ 9 ∧ Lib.itoa v = s then some v else none) = some v := if_pos ⟨by omega, hbi⟩
    simp (decide := true) (maxSteps := 4000000) -implicitDefEqProofs only [S0, ↓reduceIte, Int.reduceAdd, Int.reduceSub, Int.reduceToNat, Int.reduceNeg, Nat.reduceAdd, Nat.reduceMul, Nat.reduceSub, reduceCtorEq, toList_beq, hbi, hb8]
    exact B_eq (by simp)
   ·have hbi' : decide (bs (Lib.itoa v) = bs s) = false := decide_eq_false (fun e => hbi (bs_inj.1 e))
    have hN : (if s.length ≤ 9 ∧ Lib.itoa v = s then some v else none) = none := if_neg fun h => hbi h.2
    simp (decide := true) (maxSteps := 4000000) -implicitDefEqProofs only [S0, ↓reduceIte, Int.reduceAdd, Int.reduceSub, Int.reduceToNat, Int.reduceNeg, Nat.reduceAdd, Nat.reduceMul, Nat.reduceSub, reduceCtorEq, toList_beq, hbi', hN]
    exact B_eq (by simp)
 | _ =>
  simp (decide := true) (maxSteps := 4000000) -implicitDefEqProofs only [S0, ↓reduceIte, Int.reduceAdd, Int.reduceSub, Int.reduceToNat, Int.reduceNeg, Nat.reduceAdd, Nat.reduceMul, Nat.reduceSub, reduceCtorEq]
  exact B_eq (by simp)
end Go.Proofs.YtonolfpnidaflaaGreatDoor.E
