/- Several texts in one: RefA RefB StoreP Part PartB May. No conditions. -/
import Derived.Test.YtpdenloeacaadaaGSt
import Derived.Test.YtpdenloeacaadaaGLa
namespace Go.Proofs.Ytpdenloeacaadaa.E
open Go
set_option linter.unusedSimpArgs false
set_option linter.unusedVariables false
set_option linter.unusedSectionVars false
set_option maxRecDepth 20000
def idCut : ByteArray := ⟨#[97, 98, 99, 100, 101, 102, 103, 104, 105, 106, 107, 108, 109, 110, 111, 112, 113, 114, 115, 116, 117, 118, 119, 120, 121, 122, 48, 49, 50, 51, 52, 53, 54, 55, 56, 57]⟩
theorem idCut_mem (c : UInt8) : idCut.data.toList.contains c = idB c := by
 have : ∀ n : Fin 256, idCut.data.toList.contains (UInt8.ofNat n.1) = idB (UInt8.ofNat n.1) := by decide +kernel
 have h := this ⟨c.toNat, c.toNat_lt⟩
 simpa using h
theorem dropWhile_nil {α : Type} (p : α → Bool) (l : List α) : l.dropWhile p = [] ↔ l.all p = true := by
 induction l with
 | nil => simp
 | cons x l ih =>
  simp only [List.dropWhile_cons, List.all_cons, Bool.and_eq_true]
  split
  ·rename_i h; simp [ih, h]
  ·rename_i h; simp [h]
def lastR (id : ByteArray) (c : Int) : List Vn → Int
 | [] => -1
 | v :: l => if v.r.id = id ∧ v.r.cats = c then (if v.gone = true then -1 else (l.length : Nat)) else lastR id c l
theorem lastR_lives (l : List Vn) (id : ByteArray) (c : Int) : lastR id c l.reverse < 0 ↔ lives l id c = false := by
 unfold lives
 rw [← List.foldr_reverse]
 generalize l.reverse = m
 induction m with
 | nil => simp [lastR]
 | cons v m ih =>
  simp only [lastR, List.foldr_cons, lStep]
  by_cases h : v.r.id = id ∧ v.r.cats = c
  ·rw [if_pos h, if_pos h]
   cases v.gone <;> simp
  ·rw [if_neg h, if_neg h]; exact ih
abbrev verZ : List AV := [S ⟨#[]⟩, I 0, .val (.slice none 0 0), .val (.slice none 0 0), B false]
theorem sumlen_le {α : Type} (ls : List (List α)) (j : Nat) : (ls.take j).flatten.length ≤ ls.flatten.length := by
 induction ls generalizing j with
 | nil => simp
 | cons x ls ih => cases j with
  | zero => simp
  | succ j => simp; have := ih j; simp at this; omega
theorem flat_take {α : Type} {ls : List (List α)} {j : Nat} {x : List α} (h : ls[j]? = some x) : (ls.take (j + 1)).flatten = (ls.take j).flatten ++ x := by
 rw [take_get h]; simp
end Go.Proofs.Ytpdenloeacaadaa.E

namespace Go.Proofs.Ytpdenloeacaadaa.E
open Go
set_option linter.unusedSimpArgs false
set_option linter.unusedVariables false
set_option linter.unusedSectionVars false
set_option maxRecDepth 20000
def cutR (l : List Vn) (id : ByteArray) (c : Int) : Int := if idOk id = true then (if 0 ≤ c ∧ c < 256 then (if lives l id c = true then (if 20 ≤ cnt l c then 2 else 0) else 4) else 1) else 3
def nmS (n : Nat) : ByteArray := if n = 0 then ⟨#[97]⟩ else if n = 1 then ⟨#[98]⟩ else ⟨#[99]⟩
def xyS (n : Nat) : ByteArray := if n = 0 then ⟨#[120]⟩ else ⟨#[121]⟩
def grow1 (l : List Vn) (c : List Int) : List Vn :=
 match c with
 | a :: b :: d :: _ =>
  if wN d 4 = 0 then (if cutR l (nmS (wN a 3)) (wN b 8) = 0 then l ++ [⟨⟨nmS (wN a 3), wN b 8, [], []⟩, true⟩] else l)
  else l ++ [⟨⟨nmS (wN a 3), wN b 8, [⟨⟨#[107]⟩, xyS (wN d 2)⟩], if wN d 3 = 0 then [nmS (wN b 3)] else []⟩, false⟩]
 | _ => l
def grownL (l : List (List Int)) : List Vn := (l.take 15).foldl grow1 []
theorem grow1_len (l : List Vn) (c : List Int) : (grow1 l c).length ≤ l.length + 1 := by
 unfold grow1
 split
 ·split
  ·split <;> simp
  ·simp
 ·omega
theorem grow1_short {l : List Vn} {c : List Int} (h : c.length < 3) : grow1 l c = l := by
 rcases c with _ | ⟨a, _ | ⟨b, _ | ⟨d, c⟩⟩⟩
 ·rfl
 ·rfl
 ·rfl
 ·simp only [List.length_cons] at h; omega
theorem long_of {c : List Int} (h : ¬ c.length < 3) : ∃ a b d c', c = a :: b :: d :: c' := by
 rcases c with _ | ⟨a, _ | ⟨b, _ | ⟨d, c⟩⟩⟩
 ·simp at h
 ·simp at h
 ·simp at h
 ·exact ⟨a, b, d, c, rfl⟩
end Go.Proofs.Ytpdenloeacaadaa.E

namespace Go.Proofs.Ytpdenloeacaadaa.E
open Go
set_option linter.unusedSimpArgs false
set_option linter.unusedVariables false
set_option linter.unusedSectionVars false
set_option maxRecDepth 20000
theorem chkGo_app (p l : List Vn) (v : Vn) : chkGo p (l ++ [v]) = if chkGo p l = 0 then stepE (p ++ l) v else chkGo p l := by
 induction l generalizing p with
 | nil =>
  simp only [List.nil_append, chkGo, if_true, List.append_nil]
  split
  ·rename_i h; exact h.symm
  ·rfl
 | cons x l ih =>
  simp only [List.cons_append, chkGo]
  split
  ·rw [ih]; simp [List.append_assoc]
  ·rename_i h; first | rfl | rw [if_neg h]
theorem chkSt_add {l : List Vn} (h : chkSt l = 0) (hl : l.length < 5120) (v : Vn) : chkSt (l ++ [v]) = stepE l v := by
 have h0 : chkGo [] l = 0 := by
  unfold chkSt at h
  rwa [if_neg (by omega)] at h
 rw [chkSt, if_neg (by simp; omega), chkGo_app, if_pos h0, List.nil_append]
theorem stepE_put {l : List Vn} {r : Rc} (h : chkRec r = 0) (hc : cnt l r.cats < 20) : stepE l ⟨r, false⟩ = 0 := by
 rw [stepE, if_pos h, if_neg (show ¬ 20 < cnt l r.cats + 1 by omega), if_neg (by simp)]
theorem chkRec_iff {r : Rc} : chkRec r = 0 ↔ idOk r.id = true ∧ (0 ≤ r.cats ∧ r.cats < 256) ∧ r.fields.length ≤ 6 ∧ r.refs.length ≤ 4 ∧ fOk none r.fields = true ∧ rOk none r.refs = true := by
 unfold chkRec
 by_cases h1 : idOk r.id = true
 ·rw [if_pos h1]
  by_cases h2 : 0 ≤ r.cats ∧ r.cats < 256
  ·rw [if_pos h2]
   by_cases h3 : 6 < r.fields.length ∨ 4 < r.refs.length
   ·rw [if_pos h3]; constructor
    ·intro h; contradiction
    ·intro h; omega
   ·rw [if_neg h3]
    by_cases h4 : (fOk none r.fields && rOk none r.refs) = true
    ·rw [if_pos h4]
     rw [Bool.and_eq_true] at h4
     exact ⟨fun _ => ⟨h1, h2, by omega, by omega, h4⟩, fun _ => rfl⟩
    ·rw [if_neg h4]
     rw [Bool.and_eq_true] at h4
     constructor
     ·intro h; contradiction
     ·intro h; exact absurd h.2.2.2.2 h4
  ·rw [if_neg h2]; constructor
   ·intro h; contradiction
   ·intro h; exact absurd h.2.1 h2
 ·rw [if_neg h1]; constructor
  ·intro h; contradiction
  ·intro h; exact absurd h.1 h1
theorem chkRec_bare {id : ByteArray} {c : Int} (h : idOk id = true) (hc : 0 ≤ c ∧ c < 256) : chkRec ⟨id, c, [], []⟩ = 0 := chkRec_iff.2 ⟨h, hc, by simp, by simp, rfl, rfl⟩
theorem stepE_cut {l : List Vn} {id : ByteArray} {c : Int} (h : idOk id = true) (hc : 0 ≤ c ∧ c < 256) (hl : lives l id c = true) (hn : cnt l c < 20) : stepE l ⟨⟨id, c, [], []⟩, true⟩ = 0 := by
 rw [stepE, if_pos (chkRec_bare h hc), if_neg (show ¬ 20 < cnt l c + 1 by omega), if_neg (by simp [hl])]
theorem grown_rec {na nb nx nr : Nat} (ha : na < 3) (hb : nb < 8) (hx : nx < 2) (hr : nr < 3) : chkRec ⟨nmS na, nb, [⟨⟨#[107]⟩, xyS nx⟩], []⟩ = 0 ∧ chkRec ⟨nmS na, nb, [⟨⟨#[107]⟩, xyS nx⟩], [nmS nr]⟩ = 0 := by
 have h1 : ∀ n : Fin 3, idOk (nmS n.1) = true := by decide +kernel
 have h2 : ∀ n : Fin 2, fOk none [⟨⟨#[107]⟩, xyS n.1⟩] = true := by decide +kernel
 have h3 : ∀ n : Fin 3, rOk none [nmS n.1] = true := by decide +kernel
 have ha' := h1 ⟨na, ha⟩
 have hx' := h2 ⟨nx, hx⟩
 have hr' := h3 ⟨nr, hr⟩
 exact ⟨chkRec_iff.2 ⟨ha', by simp only; omega, by simp, by simp, hx', rfl⟩, chkRec_iff.2 ⟨ha', by simp only; omega, by simp, by simp, hx', hr'⟩⟩
theorem cutR_zero {l : List Vn} {id : ByteArray} {c : Int} (h : cutR l id c = 0) : idOk id = true ∧ (0 ≤ c ∧ c < 256) ∧ lives l id c = true ∧ cnt l c < 20 := by
 unfold cutR at h
 repeat' split at h
 all_goals first | contradiction | (refine ⟨?_, ?_, ?_, ?_⟩ <;> first | assumption | omega)
theorem grow1_ok {l : List Vn} {c : List Int} (h : chkSt l = 0) (hl : l.length < 15) : chkSt (grow1 l c) = 0 := by
 by_cases hc : c.length < 3
 ·rw [grow1_short hc]; exact h
 ·obtain ⟨a, b, d, c, rfl⟩ := long_of hc
  have ha := (wN_eq a (show 0 < 3 by omega)).2
  have hb := (wN_eq b (show 0 < 8 by omega)).2
  have hb3 := (wN_eq b (show 0 < 3 by omega)).2
  have hd2 := (wN_eq d (show 0 < 2 by omega)).2
  obtain ⟨r1, r2⟩ := grown_rec ha hb hd2 hb3
  have hcnt : ∀ k, cnt l k < 20 := fun k => by have := cnt_le l k; omega
  simp only [grow1]
  split
  ·split
   ·rename_i h0
    obtain ⟨g1, g2, g3, g4⟩ := cutR_zero h0
    rw [chkSt_add h (by omega)]
    exact stepE_cut g1 g2 g3 g4
   ·exact h
  ·rw [chkSt_add h (by omega)]
   split
   ·exact stepE_put r2 (hcnt _)
   ·exact stepE_put r1 (hcnt _)
theorem grown_fold (m : List (List Int)) (hm : m.length ≤ 15) : chkSt (m.foldl grow1 []) = 0 ∧ (m.foldl grow1 []).length ≤ m.length := by
 have key : ∀ (m : List (List Int)) (l : List Vn), chkSt l = 0 → l.length + m.length ≤ 15 → chkSt (m.foldl grow1 l) = 0 ∧ (m.foldl grow1 l).length ≤ l.length + m.length := by
  intro m
  induction m with
  | nil => intro l h _; exact ⟨h, by simp⟩
  | cons c m ih =>
   intro l h hl
   simp only [List.length_cons] at hl
   have g1 := grow1_len l c
   obtain ⟨g2, g3⟩ := ih (grow1 l c) (grow1_ok h (by omega)) (by omega)
   exact ⟨g2, by simp only [List.foldl_cons, List.length_cons]; omega⟩
 have := key m [] (by decide) (by simpa using hm)
 exact ⟨this.1, by simpa using this.2⟩
/-- What is grown is a store, of no more than fifteen versions. -/
theorem grown_st (l : List (List Int)) : chkSt (grownL l) = 0 ∧ (grownL l).length ≤ 15 := by
 have h := grown_fold (l.take 15) (by rw [List.length_take]; omega)
 exact ⟨h.1, by have := h.2; rw [List.length_take] at this; unfold grownL; omega⟩
theorem getRev_cons (id : ByteArray) (v : Vn) (l : List Vn) (g : Int → Bool) : getRev id (v :: l) g = if v.r.id = id then (if v.gone = false ∧ g v.r.cats = false then some v.r else getRev id l (fun c => decide (v.r.cats = c) || g c)) else getRev id l g := rfl
theorem getN_add (l : List Vn) (v : Vn) (id : ByteArray) : getN (l ++ [v]) id = if v.r.id = id then (if v.gone = false then some v.r else getRev id l.reverse (fun c => decide (v.r.cats = c))) else getN l id := by
 unfold getN
 rw [List.reverse_append]
 simp only [List.reverse_cons, List.reverse_nil, List.nil_append, List.cons_append, getRev_cons, and_true, Bool.or_false]
theorem getN_put (l : List Vn) (r : Rc) : getN (l ++ [⟨r, false⟩]) r.id = some r := by
 rw [getN_add, if_pos rfl, if_pos rfl]
theorem putE_zero {l : List Vn} {r : Rc} (h : chkSt l = 0) (hr : chkRec r = 0) (hc : cnt l r.cats < 20) : putE l r = 0 := by
 rw [putE, if_pos h, if_pos hr, if_neg (by omega)]
theorem putE_inv {l : List Vn} {r : Rc} (h : putE l r = 0) : chkSt l = 0 ∧ chkRec r = 0 := by
 unfold putE at h
 repeat' split at h
 all_goals first | contradiction | (refine ⟨?_, ?_⟩ <;> assumption)
theorem cutE_zero {l : List Vn} {id : ByteArray} {c : Int} (h : chkSt l = 0) (hi : idOk id = true) (hc : 0 ≤ c ∧ c < 256) (hl : lives l id c = true) (hn : cnt l c < 20) : cutE l id c = 0 := by
 rw [cutE, if_pos h, if_pos hi, if_pos hc, if_pos hl, if_neg (by omega)]
theorem cutE_none {l : List Vn} {id : ByteArray} {c : Int} (h : chkSt l = 0) (hi : idOk id = true) (hc : 0 ≤ c ∧ c < 256) (hl : lives l id c = false) : cutE l id c = 4 := by
 rw [cutE, if_pos h, if_pos hi, if_pos hc, if_neg (by rw [hl]; simp)]
theorem getRev_some {id : ByteArray} {l : List Vn} {g : Int → Bool} {r : Rc} (h : getRev id l g = some r) : g r.cats = false ∧ r.id = id ∧ ∃ v ∈ l, v.r = r := by
 induction l generalizing g with
 | nil => cases h
 | cons v l ih =>
  rw [getRev_cons] at h
  split at h
  ·rename_i h1
   split at h
   ·rename_i h2
    cases h
    exact ⟨h2.2, h1, v, by simp, rfl⟩
   ·obtain ⟨g1, g2, w, g3, g4⟩ := ih h
    simp only [Bool.or_eq_false_iff] at g1
    exact ⟨g1.2, g2, w, List.mem_cons_of_mem _ g3, g4⟩
  ·obtain ⟨g1, g2, w, g3, g4⟩ := ih h
   exact ⟨g1, g2, w, List.mem_cons_of_mem _ g3, g4⟩
theorem getN_some {l : List Vn} {id : ByteArray} {r : Rc} (h : getN l id = some r) : r.id = id ∧ ∃ v ∈ l, v.r = r := by
 obtain ⟨_, h1, v, h2, h3⟩ := getRev_some h
 exact ⟨h1, v, List.mem_reverse.1 h2, h3⟩
/-- What hides other kinds hides not this one. -/
theorem getRev_more {id : ByteArray} {l : List Vn} {g : Int → Bool} {r : Rc} {c : Int} (h : getRev id l g = some r) (hc : r.cats ≠ c) : getRev id l (fun k => decide (c = k) || g k) = some r := by
 induction l generalizing g with
 | nil => cases h
 | cons v l ih =>
  rw [getRev_cons] at h ⊢
  split at h
  ·rename_i h1
   rw [if_pos h1]
   split at h
   ·rename_i h2
    cases h
    rw [if_pos ⟨h2.1, by simp only [Bool.or_eq_false_iff, decide_eq_false_iff_not]; exact ⟨fun e => hc e.symm, h2.2⟩⟩]
   ·rename_i h2
    rw [if_neg (by
     intro h3
     simp only [Bool.or_eq_false_iff] at h3
     exact h2 ⟨h3.1, h3.2.2⟩)]
    have := ih h
    rw [← this]
    congr 1
    funext k
    simp only [Bool.or_left_comm]
  ·rename_i h1
   rw [if_neg h1]
   exact ih h
theorem getD_lens {l : List Vn} (h : chkSt l = 0) (id : ByteArray) : ((getN l id).getD noRec).fields.length ≤ 6 ∧ ((getN l id).getD noRec).refs.length ≤ 4 := by
 cases e : getN l id with
 | none => exact ⟨by simp, by simp⟩
 | some r =>
  obtain ⟨_, v, hv, rfl⟩ := getN_some e
  exact chkRec_len ((chkSt_len h).2 v hv)
theorem getE_eq {l : List Vn} (h : chkSt l = 0) (id : ByteArray) : getE l id = if (getN l id).isSome then 0 else 4 := by rw [getE, if_pos h]
end Go.Proofs.Ytpdenloeacaadaa.E

namespace Go.Proofs.Ytpdenloeacaadaa.E
open Go
set_option linter.unusedSimpArgs false
set_option linter.unusedVariables false
set_option linter.unusedSectionVars false
set_option maxRecDepth 20000
set_option maxHeartbeats 1000000
/-- Who sees only these kinds sees not this version. -/
def hid (a : Int) (v : Vn) : Bool := !decide (bnot v.r.cats a = 0)
def partL (a : Int) (l : List Vn) : List Vn := l.filter fun v => !hid a v
def idxH (a : Int) : Nat → List Vn → Int
 | _, [] => -1
 | i, v :: l => if hid a v then i else idxH a (i + 1) l
abbrev verA (v : Vn) : AV := .agg (verC v)
theorem part1_ok (v : Vn) (a : Int) : OkH Try.prog 38 [verA v, .ptr (.e 0) 0 0] [.cells 3 [I a]] (B (hid a v)) [(0, .cells 3 [I a])] := by
 refine OkH.of_wp (rs := [.tmp 3]) (n := 10) [] Try.func38 rfl rfl rfl (by simp) fo (by kernel_rfl) ?_
 simp (decide := true) (maxSteps := 4000000) -implicitDefEqProofs only [S0, ↓reduceIte, Int.reduceAdd, Int.reduceSub, Int.reduceToNat, Int.reduceNeg, Nat.reduceAdd, Nat.reduceMul, Nat.reduceSub, reduceCtorEq]
 unfold hid bnot
 by_cases h : bits .andNot .i64 v.r.cats a = 0
 ·simp [h]
 ·simp [h]
theorem idxV_ok (l : List Vn) (hl : l.length ≤ 1000000) (a : Int) : OkH Try.prog 58 [vers l, .func 38 [.ptr (.e 0) 0 0]] [.cells 3 [I a]] (I (idxH a 0 l)) [(0, .cells 3 [I a])] := by
 refine OkH.of_wp (rs := [.tmp 4]) (n := 19) [] Try.func58 rfl rfl rfl (by simp) fo (by kernel_rfl) ?_
 simp (decide := true) (maxSteps := 4000000) -implicitDefEqProofs only [S0, ↓reduceIte, Int.reduceAdd, Int.reduceSub, Int.reduceToNat, Int.reduceNeg, Nat.reduceAdd, Nat.reduceMul, Nat.reduceSub, reduceCtorEq]
 refine ALoop.st [0, 1, 6, 7, 8] (fun (i : Nat) => [vers l, .func 38 [.ptr (.e 0) 0 0], vers l, I l.length, I i]) (fun _ => [(.e 0, 0, .cells 3 [I a])]) (fun i => i ≤ l.length ∧ idxH a i (l.drop i) = idxH a 0 l) (fun i => l.length - i) [] 0 (by simp (decide := true) (maxSteps := 4000000) -implicitDefEqProofs only [S0, ↓reduceIte, Int.reduceAdd, Int.reduceSub, Int.reduceToNat, Int.reduceNeg, Nat.reduceAdd, Nat.reduceMul, Nat.reduceSub, reduceCtorEq]; try rfl) (by simp (decide := true) (maxSteps := 4000000) -implicitDefEqProofs only [S0, ↓reduceIte, Int.reduceAdd, Int.reduceSub, Int.reduceToNat, Int.reduceNeg, Nat.reduceAdd, Nat.reduceMul, Nat.reduceSub, reduceCtorEq]) ⟨by omega, rfl⟩ ?_
 rintro i ⟨hi, hu⟩
 by_cases h : (i : Int) < l.length
 ·obtain ⟨v, hv⟩ := lt_get (l := l) (i := i) (by omega)
  have hw := wr_add1 h (by omega)
  have hd : l.drop i = v :: l.drop (i + 1) := by
   obtain ⟨h', e⟩ := List.getElem?_eq_some_iff.1 hv
   rw [← e, List.drop_eq_getElem_cons]
  rw [hd, idxH] at hu
  simp (decide := true) (maxSteps := 4000000) -implicitDefEqProofs only [S0, ↓reduceIte, Int.reduceAdd, Int.reduceSub, Int.reduceToNat, Int.reduceNeg, Nat.reduceAdd, Nat.reduceMul, Nat.reduceSub, reduceCtorEq, h, hv]
  refine callH (part1_ok v a) [.e 0] ?_
  cases e : hid a v with
  | true =>
   rw [e, if_pos rfl] at hu
   simp (decide := true) (maxSteps := 4000000) -implicitDefEqProofs only [S0, ↓reduceIte, Int.reduceAdd, Int.reduceSub, Int.reduceToNat, Int.reduceNeg, Nat.reduceAdd, Nat.reduceMul, Nat.reduceSub, reduceCtorEq, hu]
  | false =>
   rw [e, if_neg (by simp)] at hu
   simp (decide := true) (maxSteps := 4000000) -implicitDefEqProofs only [S0, ↓reduceIte, Int.reduceAdd, Int.reduceSub, Int.reduceToNat, Int.reduceNeg, Nat.reduceAdd, Nat.reduceMul, Nat.reduceSub, reduceCtorEq]
   exact Nxt.mk [] (i + 1) (by simp (decide := true) (maxSteps := 4000000) -implicitDefEqProofs only [S0, ↓reduceIte, Int.reduceAdd, Int.reduceSub, Int.reduceToNat, Int.reduceNeg, Nat.reduceAdd, Nat.reduceMul, Nat.reduceSub, reduceCtorEq, hw]) (by simp (decide := true) (maxSteps := 4000000) -implicitDefEqProofs only [S0, ↓reduceIte, Int.reduceAdd, Int.reduceSub, Int.reduceToNat, Int.reduceNeg, Nat.reduceAdd, Nat.reduceMul, Nat.reduceSub, reduceCtorEq]) ⟨by omega, hu⟩ (by omega)
 ·rw [List.drop_eq_nil_of_le (by omega), idxH] at hu
  simp (decide := true) (maxSteps := 4000000) -implicitDefEqProofs only [S0, ↓reduceIte, Int.reduceAdd, Int.reduceSub, Int.reduceToNat, Int.reduceNeg, Nat.reduceAdd, Nat.reduceMul, Nat.reduceSub, reduceCtorEq, h, hu]
theorem idxVO_ok (l : List Vn) (hl : l.length ≤ 1000000) (a : Int) : OkH Try.prog 58 [.own (.e 0) 0 5 0 l.length, .func 38 [.ptr (.e 1) 0 0]] [.row 90 5 none (l.map verC), .cells 3 [I a]] (I (idxH a 0 l)) [(0, .row 90 5 none (l.map verC)), (0, .cells 3 [I a])] := by
 refine OkH.of_wp (rs := [.tmp 4]) (n := 19) [] Try.func58 rfl rfl rfl (by simp) fo (by kernel_rfl) ?_
 simp (decide := true) (maxSteps := 4000000) -implicitDefEqProofs only [S0, ↓reduceIte, Int.reduceAdd, Int.reduceSub, Int.reduceToNat, Int.reduceNeg, Nat.reduceAdd, Nat.reduceMul, Nat.reduceSub, reduceCtorEq]
 refine ALoop.st [0, 1, 6, 7, 8] (fun (i : Nat) => [.own (.e 0) 0 5 0 l.length, .func 38 [.ptr (.e 1) 0 0], .own (.e 0) 0 5 0 l.length, I l.length, I i]) (fun _ => [(.e 0, 0, .row 90 5 none (l.map verC)), (.e 1, 0, .cells 3 [I a])]) (fun i => i ≤ l.length ∧ idxH a i (l.drop i) = idxH a 0 l) (fun i => l.length - i) [] 0 (by simp (decide := true) (maxSteps := 4000000) -implicitDefEqProofs only [S0, ↓reduceIte, Int.reduceAdd, Int.reduceSub, Int.reduceToNat, Int.reduceNeg, Nat.reduceAdd, Nat.reduceMul, Nat.reduceSub, reduceCtorEq]; try rfl) (by simp (decide := true) (maxSteps := 4000000) -implicitDefEqProofs only [S0, ↓reduceIte, Int.reduceAdd, Int.reduceSub, Int.reduceToNat, Int.reduceNeg, Nat.reduceAdd, Nat.reduceMul, Nat.reduceSub, reduceCtorEq]) ⟨by omega, rfl⟩ ?_
 rintro i ⟨hi, hu⟩
 by_cases h : (i : Int) < l.length
 ·obtain ⟨v, hv⟩ := lt_get (l := l) (i := i) (by omega)
  have hw := wr_add1 h (by omega)
  have hd : l.drop i = v :: l.drop (i + 1) := by
   obtain ⟨h', e⟩ := List.getElem?_eq_some_iff.1 hv
   rw [← e, List.drop_eq_getElem_cons]
  rw [hd, idxH] at hu
  simp (decide := true) (maxSteps := 4000000) -implicitDefEqProofs only [S0, ↓reduceIte, Int.reduceAdd, Int.reduceSub, Int.reduceToNat, Int.reduceNeg, Nat.reduceAdd, Nat.reduceMul, Nat.reduceSub, reduceCtorEq, h, hv]
  refine callH (part1_ok v a) [.e 1] ?_
  cases e : hid a v with
  | true =>
   rw [e, if_pos rfl] at hu
   simp (decide := true) (maxSteps := 4000000) -implicitDefEqProofs only [S0, ↓reduceIte, Int.reduceAdd, Int.reduceSub, Int.reduceToNat, Int.reduceNeg, Nat.reduceAdd, Nat.reduceMul, Nat.reduceSub, reduceCtorEq, hu]
  | false =>
   rw [e, if_neg (by simp)] at hu
   simp (decide := true) (maxSteps := 4000000) -implicitDefEqProofs only [S0, ↓reduceIte, Int.reduceAdd, Int.reduceSub, Int.reduceToNat, Int.reduceNeg, Nat.reduceAdd, Nat.reduceMul, Nat.reduceSub, reduceCtorEq]
   exact Nxt.mk [] (i + 1) (by simp (decide := true) (maxSteps := 4000000) -implicitDefEqProofs only [S0, ↓reduceIte, Int.reduceAdd, Int.reduceSub, Int.reduceToNat, Int.reduceNeg, Nat.reduceAdd, Nat.reduceMul, Nat.reduceSub, reduceCtorEq, hw]) (by simp (decide := true) (maxSteps := 4000000) -implicitDefEqProofs only [S0, ↓reduceIte, Int.reduceAdd, Int.reduceSub, Int.reduceToNat, Int.reduceNeg, Nat.reduceAdd, Nat.reduceMul, Nat.reduceSub, reduceCtorEq]) ⟨by omega, hu⟩ (by omega)
 ·rw [List.drop_eq_nil_of_le (by omega), idxH] at hu
  simp (decide := true) (maxSteps := 4000000) -implicitDefEqProofs only [S0, ↓reduceIte, Int.reduceAdd, Int.reduceSub, Int.reduceToNat, Int.reduceNeg, Nat.reduceAdd, Nat.reduceMul, Nat.reduceSub, reduceCtorEq, h, hu]
theorem idxH_none {a : Int} {l : List Vn} : ∀ {n : Nat}, idxH a n l = -1 → partL a l = l := by
 induction l with
 | nil => intro n _; rfl
 | cons v l ih =>
  intro n h
  rw [idxH] at h
  cases e : hid a v with
  | true => rw [e, if_pos rfl] at h; omega
  | false =>
   rw [e, if_neg (by simp)] at h
   have := ih h
   unfold partL at this ⊢
   rw [List.filter_cons, e, this]
   rfl
theorem idxH_some {a : Int} {l : List Vn} : ∀ {n : Nat} {k : Int}, idxH a n l = k → k ≠ -1 → ∃ i v, k = ((n + i : Nat) : Int) ∧ l[i]? = some v ∧ hid a v = true ∧ partL a (l.take i) = l.take i := by
 induction l with
 | nil => intro n k h hk; exact absurd h.symm hk
 | cons v l ih =>
  intro n k h hk
  rw [idxH] at h
  cases e : hid a v with
  | true =>
   rw [e, if_pos rfl] at h
   exact ⟨0, v, h.symm, rfl, e, rfl⟩
  | false =>
   rw [e, if_neg (by simp)] at h
   obtain ⟨i, w, h1, h2, h3, h4⟩ := ih h hk
   refine ⟨i + 1, w, by omega, h2, h3, ?_⟩
   unfold partL at h4 ⊢
   rw [List.take_succ_cons, List.filter_cons, e, h4]
   rfl
theorem partL_len (a : Int) (l : List Vn) : (partL a l).length ≤ l.length := List.length_filter_le _ _
theorem partL_snoc {a : Int} {l : List Vn} {i : Nat} {v : Vn} (h : l[i]? = some v) : partL a (l.take (i + 1)) = if hid a v then partL a (l.take i) else partL a (l.take i) ++ [v] := by
 rw [take_get h]
 unfold partL
 rw [List.filter_append]
 cases e : hid a v with
 | true => simp [e]
 | false => simp [e]
theorem delV_ok (l : List Vn) (hl : l.length ≤ 1000000) (a : Int) : OkH Try.prog 36 [.own (.e 0) 0 5 0 l.length, .func 38 [.ptr (.e 1) 0 0]] [.row 90 5 none (l.map verC), .cells 3 [I a]] (.own (.e 0) 0 5 0 (partL a l).length) [(0, .row 90 5 none ((partL a l).map verC ++ List.replicate (l.length - (partL a l).length) verZ)), (0, .cells 3 [I a])] := by
 refine OkH.of_wp (rs := [.tmp 4]) (n := 42) [] Try.func36 rfl rfl rfl (by simp) fo (by kernel_rfl) ?_
 simp (decide := true) (maxSteps := 4000000) -implicitDefEqProofs only [S0, ↓reduceIte, Int.reduceAdd, Int.reduceSub, Int.reduceToNat, Int.reduceNeg, Nat.reduceAdd, Nat.reduceMul, Nat.reduceSub, reduceCtorEq]
 refine callH (idxVO_ok l hl a) [.e 0, .e 1] ?_
 by_cases hk : idxH a 0 l = -1
 ·have e := idxH_none hk
  rw [e, hk]
  simp (decide := true) (maxSteps := 4000000) -implicitDefEqProofs only [S0, ↓reduceIte, Int.reduceAdd, Int.reduceSub, Int.reduceToNat, Int.reduceNeg, Nat.reduceAdd, Nat.reduceMul, Nat.reduceSub, reduceCtorEq, Nat.sub_self, List.replicate_zero, List.append_nil, Option.getD_some]
 ·obtain ⟨k, v, hk1, hv, hh, hp⟩ := idxH_some rfl hk
  rw [Nat.zero_add] at hk1
  have hkl : k < l.length := by
   obtain ⟨h', _⟩ := List.getElem?_eq_some_iff.1 hv
   exact h'
  have hw := wr_add1 (n := l.length) (i := k) (by omega) (by omega)
  rw [hk1] at hk ⊢
  simp (decide := true) (maxSteps := 4000000) -implicitDefEqProofs only [S0, ↓reduceIte, Int.reduceAdd, Int.reduceSub, Int.reduceToNat, Int.reduceNeg, Nat.reduceAdd, Nat.reduceMul, Nat.reduceSub, reduceCtorEq, hk, hw]
  refine ALoop.st [0, 1, 5, 6] (fun (j : Nat) => [.own (.e 0) 0 5 0 l.length, .func 38 [.ptr (.e 1) 0 0], I (partL a (l.take j)).length, I j]) (fun j => [(.e 0, 0, .row 90 5 none ((partL a (l.take j) ++ l.drop (partL a (l.take j)).length).map verC)), (.e 1, 0, .cells 3 [I a])]) (fun j => k < j ∧ j ≤ l.length) (fun j => l.length - j) [] (k + 1)
   (by rw [partL_snoc hv, hh, if_pos rfl, hp]; simp (decide := true) (maxSteps := 4000000) -implicitDefEqProofs only [S0, ↓reduceIte, Int.reduceAdd, Int.reduceSub, Int.reduceToNat, Int.reduceNeg, Nat.reduceAdd, Nat.reduceMul, Nat.reduceSub, reduceCtorEq, List.length_take, Nat.min_eq_left (Nat.le_of_lt hkl)])
   (by rw [partL_snoc hv, hh, if_pos rfl, hp]; simp (decide := true) (maxSteps := 4000000) -implicitDefEqProofs only [S0, ↓reduceIte, Int.reduceAdd, Int.reduceSub, Int.reduceToNat, Int.reduceNeg, Nat.reduceAdd, Nat.reduceMul, Nat.reduceSub, reduceCtorEq, List.length_take, Nat.min_eq_left (Nat.le_of_lt hkl), List.take_append_drop]) ⟨by omega, by omega⟩ ?_
  rintro j ⟨hj, hjl⟩
  have lp := partL_len a (l.take j)
  rw [List.length_take] at lp
  have lp2 : (partL a (l.take j)).length < j := by
   have e : l.take j = l.take (k + 1) ++ (l.drop (k + 1)).take (j - (k + 1)) := by
    rw [← List.take_add]; congr 1; omega
   have sn := partL_snoc (a := a) hv
   rw [hh, if_pos rfl, hp] at sn
   have sp : partL a (l.take j) = l.take k ++ partL a ((l.drop (k + 1)).take (j - (k + 1))) := by
    rw [e, ← sn]; exact List.filter_append ..
   have := partL_len a ((l.drop (k + 1)).take (j - (k + 1)))
   rw [List.length_take] at this
   rw [sp, List.length_append, List.length_take]
   omega
  by_cases h : (j : Int) < l.length
  ·obtain ⟨w, hw2⟩ := lt_get (l := l) (i := j) (by omega)
   have hwj := wr_add1 h (by omega)
   have sn := partL_snoc (a := a) hw2
   have rd : (partL a (l.take j) ++ l.drop (partL a (l.take j)).length)[j]? = some w := by
    rw [List.getElem?_append_right (by omega), List.getElem?_drop, ← hw2]
    congr 1
    omega
   generalize hF : partL a (l.take j) = F at *
   simp (decide := true) (maxSteps := 4000000) -implicitDefEqProofs only [S0, ↓reduceIte, Int.reduceAdd, Int.reduceSub, Int.reduceToNat, Int.reduceNeg, Nat.reduceAdd, Nat.reduceMul, Nat.reduceSub, reduceCtorEq, h, rd]
   refine callH (part1_ok w a) [.e 1] ?_
   cases e : hid a w with
   | true =>
    rw [e, if_pos rfl] at sn
    simp (decide := true) (maxSteps := 4000000) -implicitDefEqProofs only [S0, ↓reduceIte, Int.reduceAdd, Int.reduceSub, Int.reduceToNat, Int.reduceNeg, Nat.reduceAdd, Nat.reduceMul, Nat.reduceSub, reduceCtorEq]
    exact Nxt.mk [] (j + 1) (by simp (decide := true) (maxSteps := 4000000) -implicitDefEqProofs only [S0, ↓reduceIte, Int.reduceAdd, Int.reduceSub, Int.reduceToNat, Int.reduceNeg, Nat.reduceAdd, Nat.reduceMul, Nat.reduceSub, reduceCtorEq, hwj, sn]) (by simp (decide := true) (maxSteps := 4000000) -implicitDefEqProofs only [S0, ↓reduceIte, Int.reduceAdd, Int.reduceSub, Int.reduceToNat, Int.reduceNeg, Nat.reduceAdd, Nat.reduceMul, Nat.reduceSub, reduceCtorEq, sn]) ⟨by omega, by omega⟩ (by omega)
   | false =>
    rw [e, if_neg (by simp)] at sn
    have hwF := wr_add1 (n := l.length) (i := F.length) (by omega) (by omega)
    have st : (List.map verC (F ++ l.drop F.length)).set F.length (verC w) = List.map verC (F ++ [w] ++ l.drop (F ++ [w]).length) := by
     rw [← List.map_set]
     congr 1
     rw [List.set_append_right _ _ (Nat.le_refl _), Nat.sub_self, List.length_append, List.length_singleton, List.append_assoc]
     congr 1
     rw [List.drop_eq_getElem_cons (show F.length < l.length by omega)]
     rfl
    obtain ⟨u, hu⟩ := lt_get (l := l) (i := F.length) (by omega)
    have ru : (F ++ l.drop F.length)[F.length]? = some u := by
     rw [List.getElem?_append_right (Nat.le_refl _), List.getElem?_drop, ← hu]
     congr 1
     omega
    simp (decide := true) (maxSteps := 4000000) -implicitDefEqProofs only [S0, ↓reduceIte, Int.reduceAdd, Int.reduceSub, Int.reduceToNat, Int.reduceNeg, Nat.reduceAdd, Nat.reduceMul, Nat.reduceSub, reduceCtorEq, hwF, ru, hwj]
    refine ⟨by omega, ?_⟩
    exact Nxt.mk [] (j + 1) (by simp (decide := true) (maxSteps := 4000000) -implicitDefEqProofs only [S0, ↓reduceIte, Int.reduceAdd, Int.reduceSub, Int.reduceToNat, Int.reduceNeg, Nat.reduceAdd, Nat.reduceMul, Nat.reduceSub, reduceCtorEq, sn, List.length_append, List.length_singleton]) (by rw [sn, ← st]; simp (decide := true) (maxSteps := 4000000) -implicitDefEqProofs only [S0, ↓reduceIte, Int.reduceAdd, Int.reduceSub, Int.reduceToNat, Int.reduceNeg, Nat.reduceAdd, Nat.reduceMul, Nat.reduceSub, reduceCtorEq]) ⟨by omega, by omega⟩ (by omega)
  ·obtain rfl : j = l.length := by omega
   have ta := List.take_of_length_le (Nat.le_refl l.length)
   rw [ta] at lp lp2 ⊢
   generalize hF : partL a l = F at *
   have e1 : List.take F.length (List.map verC (F ++ List.drop F.length l)) = List.map verC F := by
    rw [← List.map_take, List.take_left]
   have e2 : List.drop (F.length + (l.length - F.length)) (List.map verC (F ++ List.drop F.length l)) = [] := by
    rw [List.drop_eq_nil_of_le]; simp
   simp (decide := true) (maxSteps := 4000000) -implicitDefEqProofs only [S0, ↓reduceIte, Int.reduceAdd, Int.reduceSub, Int.reduceToNat, Int.reduceNeg, Nat.reduceAdd, Nat.reduceMul, Nat.reduceSub, reduceCtorEq, h, Option.getD_some, e1, e2, List.append_nil]
   exact ⟨by omega, .inl (by omega), by simp, .inl (by omega), rfl⟩
def partE (l : List Vn) (a : Int) : Int := if chkSt l = 0 then (if 0 ≤ a ∧ a < 256 then 0 else 1) else chkSt l
theorem Part_ok (l : List Vn) (a : Int) : Ok Try.prog 11 [vers l, I a] (.tup [vers (if partE l a = 0 then partL a l else []), I (partE l a)]) := by
 refine Ok.of_wp (rs := [.tmp 4, .tmp 5]) (n := 20) Try.func11 rfl rfl rfl (by simp) fo (by kernel_rfl) ?_
 simp (decide := true) (maxSteps := 4000000) -implicitDefEqProofs only [S0, ↓reduceIte, Int.reduceAdd, Int.reduceSub, Int.reduceToNat, Int.reduceNeg, Nat.reduceAdd, Nat.reduceMul, Nat.reduceSub, reduceCtorEq]
 refine call_eq (stCheck_ok l) ?_
 by_cases h1 : chkSt l = 0
 ·have hl := chkSt_len h1
  simp (decide := true) (maxSteps := 4000000) -implicitDefEqProofs only [S0, ↓reduceIte, Int.reduceAdd, Int.reduceSub, Int.reduceToNat, Int.reduceNeg, Nat.reduceAdd, Nat.reduceMul, Nat.reduceSub, reduceCtorEq, h1]
  refine call_eq (Cats_ok a) ?_
  by_cases h2 : 0 ≤ a ∧ a < 256
  ·have e0 : partE l a = 0 := by rw [partE, if_pos h1, if_pos h2]
   have lp := partL_len a l
   rw [decide_eq_true h2]
   simp (decide := true) (maxSteps := 4000000) -implicitDefEqProofs only [S0, ↓reduceIte, Int.reduceAdd, Int.reduceSub, Int.reduceToNat, Int.reduceNeg, Nat.reduceAdd, Nat.reduceMul, Nat.reduceSub, reduceCtorEq]
   refine callH (cloneVersH_ok (l := l) (by omega)) [.l 16] ?_
   simp (decide := true) (maxSteps := 4000000) -implicitDefEqProofs only [S0, ↓reduceIte, Int.reduceAdd, Int.reduceSub, Int.reduceToNat, Int.reduceNeg, Nat.reduceAdd, Nat.reduceMul, Nat.reduceSub, reduceCtorEq]
   refine callH (delV_ok l (by omega) a) [.l 16, .l 3] ?_
   have e3 : List.take (partL a l).length (List.map verC (partL a l) ++ List.replicate (l.length - (partL a l).length) verZ) = List.map verC (partL a l) := List.take_left' (by simp)
   simp (decide := true) (maxSteps := 4000000) -implicitDefEqProofs only [S0, ↓reduceIte, Int.reduceAdd, Int.reduceSub, Int.reduceToNat, Int.reduceNeg, Nat.reduceAdd, Nat.reduceMul, Nat.reduceSub, reduceCtorEq, e3, Nat.le_add_right]
   refine call_eq (stCopied_ok (l := partL a l) (by omega) (fun v hv => chkSt_lens h1 v (List.mem_filter.1 hv).1)) ?_
   simp (decide := true) (maxSteps := 4000000) -implicitDefEqProofs only [S0, ↓reduceIte, Int.reduceAdd, Int.reduceSub, Int.reduceToNat, Int.reduceNeg, Nat.reduceAdd, Nat.reduceMul, Nat.reduceSub, reduceCtorEq, e0]
  ·have e0 : partE l a = 1 := by rw [partE, if_pos h1, if_neg h2]
   rw [decide_eq_false h2]
   simp (decide := true) (maxSteps := 4000000) -implicitDefEqProofs only [S0, ↓reduceIte, Int.reduceAdd, Int.reduceSub, Int.reduceToNat, Int.reduceNeg, Nat.reduceAdd, Nat.reduceMul, Nat.reduceSub, reduceCtorEq, e0]
 ·have e0 : partE l a = chkSt l := by rw [partE, if_neg h1]
  simp (decide := true) (maxSteps := 4000000) -implicitDefEqProofs only [S0, ↓reduceIte, Int.reduceAdd, Int.reduceSub, Int.reduceToNat, Int.reduceNeg, Nat.reduceAdd, Nat.reduceMul, Nat.reduceSub, reduceCtorEq, h1, e0]
end Go.Proofs.Ytpdenloeacaadaa.E

namespace Go.Proofs.Ytpdenloeacaadaa.E
open Go
set_option linter.unusedSimpArgs false
set_option linter.unusedVariables false
set_option linter.unusedSectionVars false
set_option maxRecDepth 20000
set_option maxHeartbeats 1000000
def sameV (a b : Vn) : Bool := decide (a = b)
/-! Parts of parts. -/
theorem hid_iff {a : Nat} {v : Vn} (ha : a < 256) (hv : 0 ≤ v.r.cats ∧ v.r.cats < 256) : hid a v = false ↔ ∀ i, v.r.cats.toNat.testBit i = true → a.testBit i = true := by
 have e : v.r.cats = (v.r.cats.toNat : Int) := by omega
 unfold hid
 rw [Bool.not_eq_false', decide_eq_true_eq]
 generalize v.r.cats.toNat = c at e
 have hc : c < 256 := by omega
 rw [e, bnot_sub (by omega) (by omega)]
theorem hid_eq {a b : Bool} (h : a = false ↔ b = false) : a = b := by
 cases a <;> cases b <;> simp_all
theorem mem_cats {l : List Vn} (h : chkSt l = 0) {v : Vn} (hv : v ∈ l) : 0 ≤ v.r.cats ∧ v.r.cats < 256 := (chkRec_iff.1 ((chkSt_len h).2 v hv)).2.1
theorem partL_part {l : List Vn} {a b c : Nat} (h : chkSt l = 0) (ha : a < 256) (hb : b < 256) (hc : c < 256) (hab : ∀ i, c.testBit i = true ↔ a.testBit i = true ∧ b.testBit i = true) : partL b (partL a l) = partL c l := by
 unfold partL
 rw [List.filter_filter]
 refine List.filter_congr fun v hv => ?_
 have hv := mem_cats h hv
 rw [Bool.eq_iff_iff, Bool.and_eq_true, Bool.not_eq_true', Bool.not_eq_true', Bool.not_eq_true', hid_iff ha hv, hid_iff hb hv, hid_iff hc hv]
 simp only [hab]
 exact ⟨fun h i hi => ⟨h.2 i hi, h.1 i hi⟩, fun h => ⟨fun i hi => (h i hi).2, fun i hi => (h i hi).1⟩⟩
theorem partL_all {l : List Vn} (h : chkSt l = 0) : partL (255 : Nat) l = l := by
 unfold partL
 rw [List.filter_eq_self]
 intro v hv
 have hv := mem_cats h hv
 rw [Bool.not_eq_true', hid_iff (by omega) hv]
 intro i hi
 have : v.r.cats.toNat < 2 ^ 8 := by omega
 have hi8 : i < 8 := Classical.byContradiction fun hn => by
  have := Nat.testBit_lt_two_pow (Nat.lt_of_lt_of_le this (Nat.pow_le_pow_right (by omega) (show 8 ≤ i by omega)))
  rw [hi] at this; cases this
 rw [show (255 : Nat) = 2 ^ 8 - 1 by rfl, Nat.testBit_two_pow_sub_one]
 simp [hi8]
theorem partL_sub {a b : Nat} {l : List Vn} (h : chkSt l = 0) (ha : a < 256) (hb : b < 256) (hab : ∀ i, a.testBit i = true → b.testBit i = true) : (partL a l).length ≤ (partL b l).length := by
 rw [← partL_part h hb ha ha (fun i => ⟨fun h => ⟨hab i h, h⟩, fun h => h.2⟩)]
 exact partL_len _ _
theorem partL_add (a : Int) (l : List Vn) (v : Vn) : partL a (l ++ [v]) = if hid a v then partL a l else partL a l ++ [v] := by
 unfold partL
 rw [List.filter_append]
 cases e : hid a v with
 | true => simp [e]
 | false => simp [e]
theorem hid_cats {a : Int} {v w : Vn} (h : v.r.cats = w.r.cats) : hid a v = hid a w := by unfold hid; rw [h]
theorem cnt_part_le (a : Int) (l : List Vn) (c : Int) : cnt (partL a l) c ≤ cnt l c := by
 unfold cnt partL
 rw [List.filter_filter, ← List.countP_eq_length_filter, ← List.countP_eq_length_filter]
 exact List.countP_mono_left fun x _ h => by simp only [Bool.and_eq_true] at h; exact h.1
theorem snoc_ind {α : Type} {P : List α → Prop} (h0 : P []) (h1 : ∀ l x, P l → P (l ++ [x])) (l : List α) : P l := by
 have key : ∀ n (l : List α), l.length = n → P l := by
  intro n
  induction n with
  | zero => intro l h; rw [List.eq_nil_of_length_eq_zero h]; exact h0
  | succ n ih =>
   intro l h
   have hne : l ≠ [] := fun e => by rw [e] at h; cases h
   rw [← List.dropLast_concat_getLast hne]
   exact h1 _ _ (ih _ (by rw [List.length_dropLast, h]; rfl))
 exact key l.length l rfl
/-- What may be seen has just aS many of its kinds in the part. -/
theorem cnt_part (a : Int) (l : List Vn) (c : Int) (hc : bnot c a = 0) : cnt (partL a l) c = cnt l c := by
 unfold cnt partL
 rw [List.filter_filter]
 congr 1
 refine List.filter_congr fun v _ => ?_
 by_cases h : v.r.cats = c
 ·simp [h, hid, hc]
 ·simp [h]
theorem lives_part (a : Int) (l : List Vn) (id : ByteArray) (c : Int) (hc : bnot c a = 0) : lives (partL a l) id c = lives l id c := by
 induction l using snoc_ind with
 | h0 => rfl
 | h1 l v ih =>
  rw [partL_add, lives_add]
  cases e : hid a v with
  | true =>
   rw [if_pos rfl, ih, lStep, if_neg]
   rintro ⟨_, h⟩
   unfold hid at e
   rw [h, hc] at e
   simp at e
  | false =>
   rw [if_neg (by simp), lives_add, ih]
theorem chkGo_part (a : Int) : ∀ (m p : List Vn), chkGo p m = 0 → chkGo (partL a p) (partL a m) = 0 := by
 intro m
 induction m with
 | nil => intro p _; rfl
 | cons v m ih =>
  intro p h
  simp only [chkGo] at h
  split at h
  ·rename_i h0
   have := ih _ h
   rw [partL_add] at this
   cases e : hid a v with
   | true =>
    rw [e, if_pos rfl] at this
    have e2 : partL a (v :: m) = partL a m := by unfold partL; rw [List.filter_cons, e]; rfl
    rw [e2]; exact this
   | false =>
    rw [e, if_neg (by simp)] at this
    have e2 : partL a (v :: m) = v :: partL a m := by unfold partL; rw [List.filter_cons, e]; rfl
    have hc : bnot v.r.cats a = 0 := by unfold hid at e; simpa using e
    rw [e2, chkGo]
    have e3 : stepE (partL a p) v = stepE p v := by unfold stepE; rw [cnt_part a p _ hc, lives_part a p _ _ hc]
    rw [e3, h0, if_pos rfl]
    exact this
  ·rename_i h0; exact absurd h h0
/-- A part of a store is a store. -/
theorem chkSt_part {a : Int} {l : List Vn} (h : chkSt l = 0) : chkSt (partL a l) = 0 := by
 have hl := (chkSt_len h).1
 have := partL_len a l
 unfold chkSt at h ⊢
 rw [if_neg (by omega)] at h ⊢
 exact chkGo_part a l [] h
theorem Part_okS {l : List Vn} {a : Nat} (h : chkSt l = 0) (ha : a < 256) : Ok Try.prog 11 [vers l, I a] (.tup [vers (partL a l), I 0]) := by
 have e : partE l a = 0 := by rw [partE, if_pos h, if_pos (by omega)]
 have := Part_ok l a
 rwa [e, if_pos rfl] at this
end Go.Proofs.Ytpdenloeacaadaa.E

namespace Go.Proofs.Ytpdenloeacaadaa.E
open Go
set_option linter.unusedSimpArgs false
set_option linter.unusedVariables false
set_option linter.unusedSectionVars false
set_option maxRecDepth 20000
theorem May_bad {up : List Int} {l : List Rl} {w : Wh} (c : Int) (h : ¬ seesE up l w = 0) : Ok Try.prog 53 [ints up, rules l, whoV w, I c] (.tup [B false, I (seesE up l w)]) := by
 refine Ok.of_wp (rs := [.tmp 8, .tmp 9]) (n := 29) Try.func53 rfl rfl rfl (by simp) fo (by kernel_rfl) ?_
 simp (decide := true) (maxSteps := 4000000) -implicitDefEqProofs only [S0, ↓reduceIte, Int.reduceAdd, Int.reduceSub, Int.reduceToNat, Int.reduceNeg, Nat.reduceAdd, Nat.reduceMul, Nat.reduceSub, reduceCtorEq]
 refine call_eq (Sees_bad h) ?_
 simp (decide := true) (maxSteps := 4000000) -implicitDefEqProofs only [S0, ↓reduceIte, Int.reduceAdd, Int.reduceSub, Int.reduceToNat, Int.reduceNeg, Nat.reduceAdd, Nat.reduceMul, Nat.reduceSub, reduceCtorEq, h]
theorem May_ok' {up : List Int} {l : List Rl} {w : Wh} {c : Nat} (h : askOk up w) (hl : l.length ≤ 20) (hr : ∀ r ∈ l, oneE r = 0) (hc : c < 256) : Ok Try.prog 53 [ints up, rules l, whoV w, I c] (.tup [B (decide (bnot c (seesF (fitsW up w) l : Nat) = 0)), I 0]) := by
 refine Ok.of_wp (rs := [.tmp 8, .tmp 9]) (n := 29) Try.func53 rfl rfl rfl (by simp) fo (by kernel_rfl) ?_
 simp (decide := true) (maxSteps := 4000000) -implicitDefEqProofs only [S0, ↓reduceIte, Int.reduceAdd, Int.reduceSub, Int.reduceToNat, Int.reduceNeg, Nat.reduceAdd, Nat.reduceMul, Nat.reduceSub, reduceCtorEq]
 refine call_eq (Sees_ok' h hl hr) ?_
 simp (decide := true) (maxSteps := 4000000) -implicitDefEqProofs only [S0, ↓reduceIte, Int.reduceAdd, Int.reduceSub, Int.reduceToNat, Int.reduceNeg, Nat.reduceAdd, Nat.reduceMul, Nat.reduceSub, reduceCtorEq]
 refine call_eq (Cats_ok c) ?_
 rw [decide_eq_true (show 0 ≤ (c : Int) ∧ (c : Int) < 256 by omega)]
 simp (decide := true) (maxSteps := 4000000) -implicitDefEqProofs only [S0, ↓reduceIte, Int.reduceAdd, Int.reduceSub, Int.reduceToNat, Int.reduceNeg, Nat.reduceAdd, Nat.reduceMul, Nat.reduceSub, reduceCtorEq]
 refine B_eq ?_
 rw [Bool.eq_iff_iff, beq_iff_eq, decide_eq_true_eq]
theorem low255 (k : Int) : ∃ n : Nat, n < 256 ∧ bits .and .i64 k 255 = n := band_low k 8 (by omega)
end Go.Proofs.Ytpdenloeacaadaa.E
