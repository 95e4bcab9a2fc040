/- Plain law: a line says what was written, and is written as it was read. No conditions. -/
import Derived.Test.YtonolfpnidaflaaGreatDoorLogP
namespace Go.Proofs.YtonolfpnidaflaaGreatDoor.E
open Go
set_option linter.unusedSimpArgs false
set_option linter.unusedVariables false
set_option linter.unusedSectionVars false
set_option maxRecDepth 20000
theorem joinC_flat (c : UInt8) (w : List UInt8) : ∀ l : List (List UInt8), joinC c (w :: l) = w ++ l.flatMap (c :: ·)
 | [] => by simp [joinC]
 | x :: l => by
  rw [joinC, joinC_flat c x l]
  simp
def ruleWs (r : Rl) : List (List UInt8) := [Lib.itoa r.role, Lib.itoa r.why, Lib.itoa r.fr, Lib.itoa r.to, Lib.itoa r.cats, yn r.allow]
def whoWs (w : Wh) : List (List UInt8) := [Lib.itoa w.role, Lib.itoa w.why, Lib.itoa w.time]
def wordsL (o : OpS) : List (List UInt8) :=
 if o.kind = 2 then [112, 117, 116] :: (whoWs o.who ++ [wrL o.rcd])
 else if o.kind = 3 then [99, 117, 116] :: (whoWs o.who ++ [o.id.data.toList, Lib.itoa o.rcd.cats])
 else [114, 117, 108, 101, 115] :: o.rs.flatMap ruleWs
theorem flat_rules (l : List Rl) : (l.flatMap ruleWs).flatMap (32 :: ·) = l.flatMap ruleL := by
 induction l with
 | nil => rfl
 | cons r l ih =>
  rw [List.flatMap_cons, List.flatMap_append, ih, List.flatMap_cons]
  congr 1
  simp [ruleWs, ruleL, numsL]
theorem plainL_words (o : OpS) : plainL o = joinC 32 (wordsL o) := by
 unfold plainL wordsL
 split
 ·rw [joinC_flat]; simp [whoWs, numsL]
 ·split
  ·rw [joinC_flat]; simp [whoWs, numsL]
  ·rw [joinC_flat, flat_rules]

/-! ### What was written is read -/
theorem nxt_cons (s : List UInt8) (l : List (List UInt8)) (b : Bool) : nxt ⟨s :: l, b⟩ = (s, ⟨l, b⟩) := rfl
theorem numW_itoa {n : Int} (h : -(10 ^ 8) < n ∧ n < 10 ^ 9) (l : List (List UInt8)) (b : Bool) : numW ⟨Lib.itoa n :: l, b⟩ = (n, ⟨l, b⟩) := by
 have h1 : numA (Lib.itoa n) = n := by rw [numA, atoi_itoa ⟨by omega, by omega⟩]
 rw [numW, nxt_cons, h1, numOk_of h]
 simp
theorem whoW_words {w : Wh} (h : whoOk w = true) (l : List (List UInt8)) (b : Bool) : whoW ⟨whoWs w ++ l, b⟩ = (w, ⟨l, b⟩) := by
 have h' := of_decide_eq_true h
 obtain ⟨a, c, d⟩ := w
 simp only at h'
 rw [whoWs, whoW]
 simp only [List.cons_append, List.nil_append, numW_itoa (show -(10 ^ 8) < a ∧ a < 10 ^ 9 by omega), numW_itoa (show -(10 ^ 8) < c ∧ c < 10 ^ 9 by omega), numW_itoa (show -(10 ^ 8) < d ∧ d < 10 ^ 9 by omega)]
structure RlIn (r : Rl) : Prop where
 a : -(10 ^ 8) < r.role ∧ r.role < 10 ^ 9
 b : -(10 ^ 8) < r.why ∧ r.why < 10 ^ 9
 c : -(10 ^ 8) < r.fr ∧ r.fr < 10 ^ 9
 d : -(10 ^ 8) < r.to ∧ r.to < 10 ^ 9
 e : -(10 ^ 8) < r.cats ∧ r.cats < 10 ^ 9
theorem ruleW_words {r : Rl} (h : RlIn r) (l : List (List UInt8)) : ruleW ⟨ruleWs r ++ l, false⟩ = (r, ⟨l, false⟩) := by
 obtain ⟨r1, r2, r3, r4, r5, r6⟩ := r
 obtain ⟨h1, h2, h3, h4, h5⟩ := h
 simp only at h1 h2 h3 h4 h5
 rw [ruleWs, ruleW]
 simp only [List.cons_append, List.nil_append, numW_itoa h1, numW_itoa h2, numW_itoa h3, numW_itoa h4, numW_itoa h5, nxt_cons]
 cases r6 <;> simp [yn]
theorem rulesW_words : ∀ (k : Nat) (l : List Rl), (∀ r ∈ l, RlIn r) → (l.flatMap ruleWs).length ≤ k → rulesW k ⟨l.flatMap ruleWs, false⟩ = (l, ⟨[], false⟩)
 | 0, [], _, _ => rfl
 | 0, r :: l, _, h => by simp [ruleWs] at h
 | k + 1, [], _, _ => by rw [rulesW, if_neg (by simp)]; rfl
 | k + 1, r :: l, h, hk => by
  rw [rulesW, if_pos ⟨by simp [ruleWs], rfl⟩, List.flatMap_cons, ruleW_words (h r (by simp))]
  have hk' : (l.flatMap ruleWs).length ≤ k := by
   simp only [List.flatMap_cons, List.length_append, ruleWs, List.length_cons, List.length_nil] at hk
   omega
  simp only [rulesW_words k l (fun x hx => h x (List.mem_cons_of_mem _ hx)) hk']
/-- What is so of an operation that may be written, in words. -/
structure OpW (o : OpS) : Prop where
 one : o.kind = 1 → ∀ r ∈ o.rs, RlIn r
 two : o.kind = 2 → whoOk o.who = true ∧ GoodRc o.rcd
 three : o.kind = 3 → whoOk o.who = true ∧ (0 ≤ o.rcd.cats ∧ o.rcd.cats < 256) ∧ idOk o.id = true
 kind : o.kind = 1 ∨ o.kind = 2 ∨ o.kind = 3
theorem yn_no (b : Bool) {c : UInt8} (h : c = 32 ∨ c = 10 ∨ c = 61) : c ∉ yn b := by
 rcases h with rfl | rfl | rfl <;> cases b <;> decide
theorem itoa_no' (n : Int) {c : UInt8} (h : c = 32 ∨ c = 10 ∨ c = 61) : c ∉ Lib.itoa n := by
 rcases h with rfl | rfl | rfl <;> exact itoa_no n (by decide)
theorem recL_no {r : Rc} (h : GoodRc r) {c : UInt8} (hc : c = 32 ∨ c = 10) : c ∉ recL r := by
 have hi : idB c = false := by rcases hc with rfl | rfl <;> decide
 have hv : valB c = false := by rcases hc with rfl | rfl <;> decide
 have h59 : c ≠ 59 := by rcases hc with rfl | rfl <;> decide
 have h61 : c ≠ 61 := by rcases hc with rfl | rfl <;> decide
 have h44 : c ≠ 44 := by rcases hc with rfl | rfl <;> decide
 have h1 := id_no h.id hi
 have h2 : c ∉ Lib.itoa r.cats := itoa_no' _ (by rcases hc with h | h <;> simp [h])
 have h3 : c ∉ joinC 44 (r.fields.map fdL) := fun hx => by
  rcases joinC_mem hx with h' | ⟨y, hy, h'⟩
  ·exact h44 h'
  ·obtain ⟨f, hf, rfl⟩ := List.mem_map.1 hy
   exact fdL_no (fOk_mem h.fs hf) hi hv h61 h'
 have h4 : c ∉ joinC 44 (r.refs.map fun s => s.data.toList) := fun hx => by
  rcases joinC_mem hx with h' | ⟨y, hy, h'⟩
  ·exact h44 h'
  ·obtain ⟨s, hs, rfl⟩ := List.mem_map.1 hy
   exact id_no (rOk_mem h.rs hs) hi h'
 unfold recL
 simp only [List.mem_append, List.mem_cons, not_or]
 exact ⟨h1, h59, h2, h59, h3, h59, h4⟩
theorem wrL_good {r : Rc} (h : GoodRc r) : wrL r = recL r := if_pos ((chkRec_good r).2 h)
/-- No word has a blank, or a line's end. -/
theorem words_no {o : OpS} (h : OpW o) {c : UInt8} (hc : c = 32 ∨ c = 10) : ∀ w ∈ wordsL o, c ∉ w := by
 have hc3 : c = 32 ∨ c = 10 ∨ c = 61 := by rcases hc with h | h <;> simp [h]
 have hi : idB c = false := by rcases hc with rfl | rfl <;> decide
 intro w hw
 unfold wordsL at hw
 split at hw
 ·rename_i hk
  obtain ⟨_, hg⟩ := h.two hk
  simp only [whoWs, List.mem_cons, List.mem_append, List.not_mem_nil, or_false] at hw
  rcases hw with rfl | (rfl | rfl | rfl) | rfl
  ·rcases hc with rfl | rfl <;> decide
  ·exact itoa_no' _ hc3
  ·exact itoa_no' _ hc3
  ·exact itoa_no' _ hc3
  ·rw [wrL_good hg]; exact recL_no hg hc
 ·split at hw
  ·rename_i hk
   obtain ⟨_, _, hid⟩ := h.three hk
   simp only [whoWs, List.mem_cons, List.mem_append, List.not_mem_nil, or_false] at hw
   rcases hw with rfl | (rfl | rfl | rfl) | rfl | rfl
   ·rcases hc with rfl | rfl <;> decide
   ·exact itoa_no' _ hc3
   ·exact itoa_no' _ hc3
   ·exact itoa_no' _ hc3
   ·exact id_no hid hi
   ·exact itoa_no' _ hc3
  ·rcases List.mem_cons.1 hw with rfl | hw
   ·rcases hc with rfl | rfl <;> decide
   ·obtain ⟨r, _, hr⟩ := List.mem_flatMap.1 hw
    simp only [ruleWs, List.mem_cons, List.not_mem_nil, or_false] at hr
    rcases hr with rfl | rfl | rfl | rfl | rfl | rfl
    ·exact itoa_no' _ hc3
    ·exact itoa_no' _ hc3
    ·exact itoa_no' _ hc3
    ·exact itoa_no' _ hc3
    ·exact itoa_no' _ hc3
    ·exact yn_no _ hc3
theorem wordsL_ne (o : OpS) : wordsL o ≠ [] := by
 unfold wordsL
 split
 ·exact List.cons_ne_nil _ _
 ·split
  ·exact List.cons_ne_nil _ _
  ·exact List.cons_ne_nil _ _
theorem parse_plain {o : OpS} (h : OpW o) : parseL (plainL o) = (plainO o, true) := by
 unfold parseL
 rw [plainL_words, split_join (wordsL_ne o) fun w hw => words_no h (.inl rfl) w hw]
 rcases h.kind with hk | hk | hk
 ·rw [wordsL, if_neg (by omega), if_neg (by omega), plainO, if_pos hk]
  unfold parseW
  rw [nxt_cons, if_neg (show ¬ ([114, 117, 108, 101, 115] : List UInt8) = [112, 117, 116] by decide), if_neg (show ¬ ([114, 117, 108, 101, 115] : List UInt8) = [99, 117, 116] by decide), if_pos rfl, rulW, rulesW_words _ _ (h.one hk) (Nat.le_refl _)]
  rfl
 ·obtain ⟨hw, hg⟩ := h.two hk
  obtain ⟨r1, r2⟩ := readC_recL hg
  rw [wordsL, if_pos hk, plainO, if_neg (by omega), if_pos hk]
  unfold parseW
  rw [nxt_cons, if_pos rfl, putW, whoW_words hw, nxt_cons, wrL_good hg]
  simp only [r1, r2]
  rfl
 ·obtain ⟨hw, hcat, hid⟩ := h.three hk
  rw [wordsL, if_neg (by omega), if_pos hk, plainO, if_neg (by omega), if_neg (by omega)]
  unfold parseW
  rw [nxt_cons, if_neg (show ¬ ([99, 117, 116] : List UInt8) = [112, 117, 116] by decide), if_pos rfl, cutW, whoW_words hw, nxt_cons, numW_itoa (by omega)]
  rfl

/-! ### What is read is written -/
theorem nxt_inv {w : Ws} (h : (nxt w).2.bad = false) : w.bad = false ∧ w.l = (nxt w).1 :: (nxt w).2.l := by
 obtain ⟨l, b⟩ := w
 cases l with
 | nil => cases h
 | cons s l => exact ⟨h, rfl⟩
theorem num_inv {w : Ws} (h : (numW w).2.bad = false) : w.bad = false ∧ w.l = Lib.itoa (numW w).1 :: (numW w).2.l := by
 have h' : ((nxt w).2.bad || (numOk (nxt w).1).isNone) = false := h
 rw [Bool.or_eq_false_iff] at h'
 obtain ⟨h1, h2⟩ := nxt_inv h'.1
 refine ⟨h1, ?_⟩
 rw [h2]
 cases hn : numOk (nxt w).1 with
 | none => rw [hn] at h'; simp at h'
 | some n =>
  obtain ⟨e1, e2, _⟩ := numOk_itoa hn
  show _ = Lib.itoa (numA (nxt w).1) :: (nxt w).2.l
  rw [numA, e2, e1]
theorem who_inv {w : Ws} (h : (whoW w).2.bad = false) : w.bad = false ∧ w.l = whoWs (whoW w).1 ++ (whoW w).2.l := by
 obtain ⟨a1, a2⟩ := num_inv (w := (numW (numW w).2).2) h
 obtain ⟨b1, b2⟩ := num_inv a1
 obtain ⟨c1, c2⟩ := num_inv b1
 refine ⟨c1, ?_⟩
 rw [c2, b2, a2]
 rfl
theorem rule_inv {w : Ws} (h : (ruleW w).2.bad = false) : w.bad = false ∧ w.l = ruleWs (ruleW w).1 ++ (ruleW w).2.l := by
 obtain ⟨F, hF⟩ : ∃ F, F = nxt (numW (numW (numW (numW (numW w).2).2).2).2).2 := ⟨_, rfl⟩
 have h' : (F.2.bad || !(decide (F.1 = [121, 101, 115]) || decide (F.1 = [110, 111]))) = false := by rw [hF]; exact h
 rw [Bool.or_eq_false_iff] at h'
 obtain ⟨f1, f2⟩ := nxt_inv (w := (numW (numW (numW (numW (numW w).2).2).2).2).2) (by rw [← hF]; exact h'.1)
 obtain ⟨a1, a2⟩ := num_inv f1
 obtain ⟨b1, b2⟩ := num_inv a1
 obtain ⟨c1, c2⟩ := num_inv b1
 obtain ⟨d1, d2⟩ := num_inv c1
 obtain ⟨e1, e2⟩ := num_inv d1
 refine ⟨e1, ?_⟩
 have hy : yn (decide (F.1 = [121, 101, 115])) = F.1 := by
  by_cases y : F.1 = [121, 101, 115]
  ·rw [decide_eq_true y, y]; rfl
  ·rw [decide_eq_false y]
   have h2 := h'.2
   rw [decide_eq_false y] at h2
   simp at h2
   rw [h2]; rfl
 rw [e2, d2, c2, b2, a2, f2, ← hF]
 show _ = ruleWs ⟨_, _, _, _, _, decide ((nxt (numW (numW (numW (numW (numW w).2).2).2).2).2).1 = [121, 101, 115])⟩ ++ (nxt (numW (numW (numW (numW (numW w).2).2).2).2).2).2.l
 rw [← hF, ruleWs]
 simp only [hy]
 rfl
theorem rules_inv : ∀ (k : Nat) (w : Ws), w.l.length ≤ k → (rulesW k w).2.bad = false → (rulesW k w).2.l = [] → w.l = (rulesW k w).1.flatMap ruleWs
 | 0, w, hk, _, _ => by rw [rulesW]; exact List.length_eq_zero_iff.1 (by omega)
 | k + 1, w, hk, hb, hl => by
  rw [rulesW] at hb hl ⊢
  by_cases h : w.l ≠ [] ∧ w.bad = false
  ·rw [if_pos h] at hb hl ⊢
   simp only at hb hl ⊢
   have hbr : (ruleW w).2.bad = false := by
    cases e : (ruleW w).2.bad with
    | false => rfl
    | true =>
     cases k with
     | zero => rw [rulesW] at hb; rw [hb] at e; cases e
     | succ k => rw [rulesW, if_neg (by simp [e])] at hb; rw [hb] at e; cases e
   obtain ⟨_, e⟩ := rule_inv hbr
   have hlen := congrArg List.length e
   simp only [ruleWs, List.length_append, List.length_cons, List.length_nil] at hlen
   rw [List.flatMap_cons, ← rules_inv k _ (by omega) hb hl]
   exact e
  ·rw [if_neg h] at hl ⊢
   exact hl
theorem endOk_iff {w : Ws} : endOk w = true ↔ w.bad = false ∧ w.l = [] := by
 obtain ⟨l, b⟩ := w
 cases b <;> cases l <;> simp [endOk]
/-- What a line's words say is written as these words. -/
theorem parse_inv {L : List (List UInt8)} (h : (parseW ⟨L, false⟩).2 = true) : L = wordsL (parseW ⟨L, false⟩).1 := by
 unfold parseW at h ⊢
 by_cases c1 : (nxt ⟨L, false⟩).1 = [112, 117, 116]
 ·rw [if_pos c1] at h ⊢
  obtain ⟨h1, h2⟩ := endOk_iff.1 h
  simp only [Bool.or_eq_false_iff] at h1
  obtain ⟨a1, a2⟩ := nxt_inv h1.1
  obtain ⟨b1, b2⟩ := who_inv a1
  obtain ⟨_, d2⟩ := nxt_inv b1
  have hr : readC (nxt (whoW (nxt ⟨L, false⟩).2).2).1 = 0 := by simpa using h1.2
  obtain ⟨_, r2, r3⟩ := readC_zero hr
  have e : wordsL (putW (nxt ⟨L, false⟩).2).1 = [112, 117, 116] :: (whoWs (whoW (nxt ⟨L, false⟩).2).1 ++ [wrL (readR (nxt (whoW (nxt ⟨L, false⟩).2).2).1)]) := rfl
  rw [e, wrL_good r2, r3]
  refine d2.trans ?_
  rw [c1, b2, a2]
  simp only at h2
  rw [h2]
 ·rw [if_neg c1] at h ⊢
  by_cases c2 : (nxt ⟨L, false⟩).1 = [99, 117, 116]
  ·rw [if_pos c2] at h ⊢
   obtain ⟨h1, h2⟩ := endOk_iff.1 h
   obtain ⟨a1, a2⟩ := num_inv h1
   obtain ⟨b1, b2⟩ := nxt_inv a1
   obtain ⟨d1, d2⟩ := who_inv b1
   obtain ⟨_, f2⟩ := nxt_inv d1
   have e : wordsL (cutW (nxt ⟨L, false⟩).2).1 = [99, 117, 116] :: (whoWs (whoW (nxt ⟨L, false⟩).2).1 ++ [(nxt (whoW (nxt ⟨L, false⟩).2).2).1, Lib.itoa (numW (nxt (whoW (nxt ⟨L, false⟩).2).2).2).1]) := rfl
   rw [e]
   refine f2.trans ?_
   rw [c2, d2, b2, a2, h2]
  ·rw [if_neg c2] at h ⊢
   by_cases c3 : (nxt ⟨L, false⟩).1 = [114, 117, 108, 101, 115]
   ·rw [if_pos c3] at h ⊢
    obtain ⟨h1, h2⟩ := endOk_iff.1 h
    have hw := rules_inv _ _ (Nat.le_refl _) h1 h2
    have hb : (nxt ⟨L, false⟩).2.bad = false := by
     cases L with
     | nil => cases c3
     | cons x L => rfl
    obtain ⟨_, f2⟩ := nxt_inv hb
    have e : wordsL (rulW (nxt ⟨L, false⟩).2).1 = [114, 117, 108, 101, 115] :: (rulesW (nxt ⟨L, false⟩).2.l.length (nxt ⟨L, false⟩).2).1.flatMap ruleWs := rfl
    rw [e, ← hw]
    refine f2.trans ?_
    rw [c3]
   ·rw [if_neg c3] at h
    cases h
theorem parseL_inv {p : List UInt8} (h : (parseL p).2 = true) : plainL (parseL p).1 = p := by
 have := parse_inv (L := splitC 32 p) h
 rw [plainL_words]
 show joinC 32 (wordsL (parseW ⟨splitC 32 p, false⟩).1) = p
 rw [← this, join_split]
end Go.Proofs.YtonolfpnidaflaaGreatDoor.E
