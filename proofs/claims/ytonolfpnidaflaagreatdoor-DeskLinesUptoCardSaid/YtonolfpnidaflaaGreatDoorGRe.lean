/- Several texts in one: RefA RefB StoreP Part PartB May. No conditions. -/
import Derived.Test.YtonolfpnidaflaaGreatDoorGSt
import Derived.Test.YtonolfpnidaflaaGreatDoorGLa
namespace Go.Proofs.YtonolfpnidaflaaGreatDoor.E
open Go
set_option linter.unusedSimpArgs false
set_option linter.unusedVariables false
set_option linter.unusedSectionVars false
set_option maxRecDepth 20000
abbrev verZ : List AV := [S ⟨#[]⟩, I 0, .val (.slice none 0 0), .val (.slice none 0 0), B false]
end Go.Proofs.YtonolfpnidaflaaGreatDoor.E

namespace Go.Proofs.YtonolfpnidaflaaGreatDoor.E
open Go
set_option linter.unusedSimpArgs false
set_option linter.unusedVariables false
set_option linter.unusedSectionVars false
set_option maxRecDepth 20000
end Go.Proofs.YtonolfpnidaflaaGreatDoor.E

namespace Go.Proofs.YtonolfpnidaflaaGreatDoor.E
open Go
set_option linter.unusedSimpArgs false
set_option linter.unusedVariables false
set_option linter.unusedSectionVars false
set_option maxRecDepth 20000
theorem chkGo_app (p l : List Vn) (v : Vn) : chkGo p (l ++ [v]) = if chkGo p l = 0 then stepE (p ++ l) v else chkGo p l := by
 induction l generalizing p with
 | nil =>
  simp only [List.nil_append, chkGo, if_true, List.append_nil]
  split
  ·rename_i h; exact h.symm
  ·rfl
 | cons x l ih =>
  simp only [List.cons_append, chkGo]
  split
  ·rw [ih]; simp [List.append_assoc]
  ·rename_i h; first | rfl | rw [if_neg h]
theorem chkSt_add {l : List Vn} (h : chkSt l = 0) (hl : l.length < 5120) (v : Vn) : chkSt (l ++ [v]) = stepE l v := by
 have h0 : chkGo [] l = 0 := by
  unfold chkSt at h
  rwa [if_neg (by omega)] at h
 rw [chkSt, if_neg (by simp; omega), chkGo_app, if_pos h0, List.nil_append]
theorem stepE_put {l : List Vn} {r : Rc} (h : chkRec r = 0) (hc : cnt l r.cats < 20) : stepE l ⟨r, false⟩ = 0 := by
 rw [stepE, if_pos h, if_neg (show ¬ 20 < cnt l r.cats + 1 by omega), if_neg (by simp)]
theorem chkRec_iff {r : Rc} : chkRec r = 0 ↔ idOk r.id = true ∧ (0 ≤ r.cats ∧ r.cats < 256) ∧ r.fields.length ≤ 6 ∧ r.refs.length ≤ 4 ∧ fOk none r.fields = true ∧ rOk none r.refs = true := by
 unfold chkRec
 by_cases h1 : idOk r.id = true
 ·rw [if_pos h1]
  by_cases h2 : 0 ≤ r.cats ∧ r.cats < 256
  ·rw [if_pos h2]
   by_cases h3 : 6 < r.fields.length ∨ 4 < r.refs.length
   ·rw [if_pos h3]; constructor
    ·intro h; contradiction
    ·intro h; omega
   ·rw [if_neg h3]
    by_cases h4 : (fOk none r.fields && rOk none r.refs) = true
    ·rw [if_pos h4]
     rw [Bool.and_eq_true] at h4
     exact ⟨fun _ => ⟨h1, h2, by omega, by omega, h4⟩, fun _ => rfl⟩
    ·rw [if_neg h4]
     rw [Bool.and_eq_true] at h4
     constructor
     ·intro h; contradiction
     ·intro h; exact absurd h.2.2.2.2 h4
  ·rw [if_neg h2]; constructor
   ·intro h; contradiction
   ·intro h; exact absurd h.2.1 h2
 ·rw [if_neg h1]; constructor
  ·intro h; contradiction
  ·intro h; exact absurd h.1 h1
theorem chkRec_bare {id : ByteArray} {c : Int} (h : idOk id = true) (hc : 0 ≤ c ∧ c < 256) : chkRec ⟨id, c, [], []⟩ = 0 := chkRec_iff.2 ⟨h, hc, by simp, by simp, rfl, rfl⟩
theorem stepE_cut {l : List Vn} {id : ByteArray} {c : Int} (h : idOk id = true) (hc : 0 ≤ c ∧ c < 256) (hl : lives l id c = true) (hn : cnt l c < 20) : stepE l ⟨⟨id, c, [], []⟩, true⟩ = 0 := by
 rw [stepE, if_pos (chkRec_bare h hc), if_neg (show ¬ 20 < cnt l c + 1 by omega), if_neg (by simp [hl])]
theorem getRev_cons (id : ByteArray) (v : Vn) (l : List Vn) (g : Int → Bool) : getRev id (v :: l) g = if v.r.id = id then (if v.gone = false ∧ g v.r.cats = false then some v.r else getRev id l (fun c => decide (v.r.cats = c) || g c)) else getRev id l g := rfl
theorem getN_add (l : List Vn) (v : Vn) (id : ByteArray) : getN (l ++ [v]) id = if v.r.id = id then (if v.gone = false then some v.r else getRev id l.reverse (fun c => decide (v.r.cats = c))) else getN l id := by
 unfold getN
 rw [List.reverse_append]
 simp only [List.reverse_cons, List.reverse_nil, List.nil_append, List.cons_append, getRev_cons, and_true, Bool.or_false]
theorem getN_put (l : List Vn) (r : Rc) : getN (l ++ [⟨r, false⟩]) r.id = some r := by
 rw [getN_add, if_pos rfl, if_pos rfl]
theorem putE_inv {l : List Vn} {r : Rc} (h : putE l r = 0) : chkSt l = 0 ∧ chkRec r = 0 := by
 unfold putE at h
 repeat' split at h
 all_goals first | contradiction | (refine ⟨?_, ?_⟩ <;> assumption)
theorem getRev_some {id : ByteArray} {l : List Vn} {g : Int → Bool} {r : Rc} (h : getRev id l g = some r) : g r.cats = false ∧ r.id = id ∧ ∃ v ∈ l, v.r = r := by
 induction l generalizing g with
 | nil => cases h
 | cons v l ih =>
  rw [getRev_cons] at h
  split at h
  ·rename_i h1
   split at h
   ·rename_i h2
    cases h
    exact ⟨h2.2, h1, v, by simp, rfl⟩
   ·obtain ⟨g1, g2, w, g3, g4⟩ := ih h
    simp only [Bool.or_eq_false_iff] at g1
    exact ⟨g1.2, g2, w, List.mem_cons_of_mem _ g3, g4⟩
  ·obtain ⟨g1, g2, w, g3, g4⟩ := ih h
   exact ⟨g1, g2, w, List.mem_cons_of_mem _ g3, g4⟩
theorem getN_some {l : List Vn} {id : ByteArray} {r : Rc} (h : getN l id = some r) : r.id = id ∧ ∃ v ∈ l, v.r = r := by
 obtain ⟨_, h1, v, h2, h3⟩ := getRev_some h
 exact ⟨h1, v, List.mem_reverse.1 h2, h3⟩
theorem getD_lens {l : List Vn} (h : chkSt l = 0) (id : ByteArray) : ((getN l id).getD noRec).fields.length ≤ 6 ∧ ((getN l id).getD noRec).refs.length ≤ 4 := by
 cases e : getN l id with
 | none => exact ⟨by simp, by simp⟩
 | some r =>
  obtain ⟨_, v, hv, rfl⟩ := getN_some e
  exact chkRec_len ((chkSt_len h).2 v hv)
theorem getE_eq {l : List Vn} (h : chkSt l = 0) (id : ByteArray) : getE l id = if (getN l id).isSome then 0 else 4 := by rw [getE, if_pos h]
end Go.Proofs.YtonolfpnidaflaaGreatDoor.E

namespace Go.Proofs.YtonolfpnidaflaaGreatDoor.E
open Go
set_option linter.unusedSimpArgs false
set_option linter.unusedVariables false
set_option linter.unusedSectionVars false
set_option maxRecDepth 20000
set_option maxHeartbeats 1000000
/-- Who sees only these kinds sees not this version. -/
def hid (a : Int) (v : Vn) : Bool := !decide (bnot v.r.cats a = 0)
def partL (a : Int) (l : List Vn) : List Vn := l.filter fun v => !hid a v
def idxH (a : Int) : Nat → List Vn → Int
 | _, [] => -1
 | i, v :: l => if hid a v then i else idxH a (i + 1) l
abbrev verA (v : Vn) : AV := .agg (verC v)
theorem part1_ok (v : Vn) (a : Int) : OkH Tryz.prog 111 [verA v, .ptr (.e 0) 0 0] [.cells 3 [I a]] (B (hid a v)) [(0, .cells 3 [I a])] := by
 refine OkH.of_wp (rs := [.tmp 3]) (n := 10) [] Tryz.func111 rfl rfl rfl (by simp) fo (by kernel_rfl) ?_
 simp +decide -implicitDefEqProofs only [S0, simprocAttr]
 unfold hid bnot
 by_cases h : bits .andNot .i64 v.r.cats a = 0
 ·simp [h]
 ·simp [h]
theorem idxVO_ok (l : List Vn) (hl : l.length ≤ 1000000) (a : Int) : OkH Tryz.prog 112 [.own (.e 0) 0 5 0 l.length, .func 111 [.ptr (.e 1) 0 0]] [.row 104 5 none (l.map verC), .cells 3 [I a]] (I (idxH a 0 l)) [(0, .row 104 5 none (l.map verC)), (0, .cells 3 [I a])] := by
 refine OkH.of_wp (rs := [.tmp 4]) (n := 19) [] Tryz.func112 rfl rfl rfl (by simp) fo (by kernel_rfl) ?_
 simp +decide -implicitDefEqProofs only [S0, simprocAttr]
 refine ALoop.st [0, 1, 6, 7, 8] (fun (i : Nat) => [.own (.e 0) 0 5 0 l.length, .func 111 [.ptr (.e 1) 0 0], .own (.e 0) 0 5 0 l.length, I l.length, I i]) (fun _ => [(.e 0, 0, .row 104 5 none (l.map verC)), (.e 1, 0, .cells 3 [I a])]) (fun i => i ≤ l.length ∧ idxH a i (l.drop i) = idxH a 0 l) (fun i => l.length - i) [] 0 (by simp +decide -implicitDefEqProofs only [S0, simprocAttr]; try rfl) (by simp +decide -implicitDefEqProofs only [S0, simprocAttr]) ⟨by omega, rfl⟩ ?_
 rintro i ⟨hi, hu⟩
 by_cases h : (i : Int) < l.length
 ·obtain ⟨v, hv⟩ := lt_get (l := l) (i := i) (by omega)
  have hw := wr_add1 h (by omega)
  have hd : l.drop i = v :: l.drop (i + 1) := by
   obtain ⟨h', e⟩ := List.getElem?_eq_some_iff.1 hv
   rw [← e, List.drop_eq_getElem_cons]
  rw [hd, idxH] at hu
  simp +decide -implicitDefEqProofs only [S0, simprocAttr, h, hv]
  refine callH (part1_ok v a) [.e 1] ?_
  cases e : hid a v with
  | true =>
   rw [e, if_pos rfl] at hu
   simp +decide -implicitDefEqProofs only [S0, simprocAttr, hu]
  | false =>
   rw [e, if_neg (by simp)] at hu
   simp +decide -implicitDefEqProofs only [S0, simprocAttr]
   exact Nxt.mk [] (i + 1) (by simp +decide -implicitDefEqProofs only [S0, simprocAttr, hw]) (by simp +decide -implicitDefEqProofs only [S0, simprocAttr]) ⟨by omega, hu⟩ (by omega)
 ·rw [List.drop_eq_nil_of_le (by omega), idxH] at hu
  simp +decide -implicitDefEqProofs only [S0, simprocAttr, h, hu]
theorem idxH_none {a : Int} {l : List Vn} : ∀ {n : Nat}, idxH a n l = -1 → partL a l = l := by
 induction l with
 | nil => intro n _; rfl
 | cons v l ih =>
  intro n h
  rw [idxH] at h
  cases e : hid a v with
  | true => rw [e, if_pos rfl] at h; omega
  | false =>
   rw [e, if_neg (by simp)] at h
   have := ih h
   unfold partL at this ⊢
   rw [List.filter_cons, e, this]
   rfl
theorem idxH_some {a : Int} {l : List Vn} : ∀ {n : Nat} {k : Int}, idxH a n l = k → k ≠ -1 → ∃ i v, k = ((n + i : Nat) : Int) ∧ l[i]? = some v ∧ hid a v = true ∧ partL a (l.take i) = l.take i := by
 induction l with
 | nil => intro n k h hk; exact absurd h.symm hk
 | cons v l ih =>
  intro n k h hk
  rw [idxH] at h
  cases e : hid a v with
  | true =>
   rw [e, if_pos rfl] at h
   exact ⟨0, v, h.symm, rfl, e, rfl⟩
  | false =>
   rw [e, if_neg (by simp)] at h
   obtain ⟨i, w, h1, h2, h3, h4⟩ := ih h hk
   refine ⟨i + 1, w, by omega, h2, h3, ?_⟩
   unfold partL at h4 ⊢
   rw [List.take_succ_cons, List.filter_cons, e, h4]
   rfl
theorem partL_len (a : Int) (l : List Vn) : (partL a l).length ≤ l.length := List.length_filter_le _ _
theorem partL_snoc {a : Int} {l : List Vn} {i : Nat} {v : Vn} (h : l[i]? = some v) : partL a (l.take (i + 1)) = if hid a v then partL a (l.take i) else partL a (l.take i) ++ [v] := by
 rw [take_get h]
 unfold partL
 rw [List.filter_append]
 cases e : hid a v with
 | true => simp [e]
 | false => simp [e]
theorem delV_ok (l : List Vn) (hl : l.length ≤ 1000000) (a : Int) : OkH Tryz.prog 80 [.own (.e 0) 0 5 0 l.length, .func 111 [.ptr (.e 1) 0 0]] [.row 104 5 none (l.map verC), .cells 3 [I a]] (.own (.e 0) 0 5 0 (partL a l).length) [(0, .row 104 5 none ((partL a l).map verC ++ List.replicate (l.length - (partL a l).length) verZ)), (0, .cells 3 [I a])] := by
 refine OkH.of_wp (rs := [.tmp 4]) (n := 42) [] Tryz.func80 rfl rfl rfl (by simp) fo (by kernel_rfl) ?_
 simp +decide -implicitDefEqProofs only [S0, simprocAttr]
 refine callH (idxVO_ok l hl a) [.e 0, .e 1] ?_
 by_cases hk : idxH a 0 l = -1
 ·have e := idxH_none hk
  rw [e, hk]
  simp +decide -implicitDefEqProofs only [S0, simprocAttr, Nat.sub_self, List.replicate_zero, List.append_nil, Option.getD_some]
 ·obtain ⟨k, v, hk1, hv, hh, hp⟩ := idxH_some rfl hk
  rw [Nat.zero_add] at hk1
  have hkl : k < l.length := by
   obtain ⟨h', _⟩ := List.getElem?_eq_some_iff.1 hv
   exact h'
  have hw := wr_add1 (n := l.length) (i := k) (by omega) (by omega)
  rw [hk1] at hk ⊢
  simp +decide -implicitDefEqProofs only [S0, simprocAttr, hk, hw]
  refine ALoop.st [0, 1, 5, 6] (fun (j : Nat) => [.own (.e 0) 0 5 0 l.length, .func 111 [.ptr (.e 1) 0 0], I (partL a (l.take j)).length, I j]) (fun j => [(.e 0, 0, .row 104 5 none ((partL a (l.take j) ++ l.drop (partL a (l.take j)).length).map verC)), (.e 1, 0, .cells 3 [I a])]) (fun j => k < j ∧ j ≤ l.length) (fun j => l.length - j) [] (k + 1)
   (by rw [partL_snoc hv, hh, if_pos rfl, hp]; simp +decide -implicitDefEqProofs only [S0, simprocAttr, List.length_take, Nat.min_eq_left (Nat.le_of_lt hkl)])
   (by rw [partL_snoc hv, hh, if_pos rfl, hp]; simp +decide -implicitDefEqProofs only [S0, simprocAttr, List.length_take, Nat.min_eq_left (Nat.le_of_lt hkl), List.take_append_drop]) ⟨by omega, by omega⟩ ?_
  rintro j ⟨hj, hjl⟩
  have lp := partL_len a (l.take j)
  rw [List.length_take] at lp
  have lp2 : (partL a (l.take j)).length < j := by
   have e : l.take j = l.take (k + 1) ++ (l.drop (k + 1)).take (j - (k + 1)) := by
    rw [← List.take_add]; congr 1; omega
   have sn := partL_snoc (a := a) hv
   rw [hh, if_pos rfl, hp] at sn
   have sp : partL a (l.take j) = l.take k ++ partL a ((l.drop (k + 1)).take (j - (k + 1))) := by
    rw [e, ← sn]; exact List.filter_append ..
   have := partL_len a ((l.drop (k + 1)).take (j - (k + 1)))
   rw [List.length_take] at this
   rw [sp, List.length_append, List.length_take]
   omega
  by_cases h : (j : Int) < l.length
  ·obtain ⟨w, hw2⟩ := lt_get (l := l) (i := j) (by omega)
   have hwj := wr_add1 h (by omega)
   have sn := partL_snoc (a := a) hw2
   have rd : (partL a (l.take j) ++ l.drop (partL a (l.take j)).length)[j]? = some w := by
    rw [List.getElem?_append_right (by omega), List.getElem?_drop, ← hw2]
    congr 1
    omega
   generalize hF : partL a (l.take j) = F at *
   simp +decide -implicitDefEqProofs only [S0, simprocAttr, h, rd]
   refine callH (part1_ok w a) [.e 1] ?_
   cases e : hid a w with
   | true =>
    rw [e, if_pos rfl] at sn
    simp +decide -implicitDefEqProofs only [S0, simprocAttr]
    exact Nxt.mk [] (j + 1) (by simp +decide -implicitDefEqProofs only [S0, simprocAttr, hwj, sn]) (by simp +decide -implicitDefEqProofs only [S0, simprocAttr, sn]) ⟨by omega, by omega⟩ (by omega)
   | false =>
    rw [e, if_neg (by simp)] at sn
    have hwF := wr_add1 (n := l.length) (i := F.length) (by omega) (by omega)
    have st : (List.map verC (F ++ l.drop F.length)).set F.length (verC w) = List.map verC (F ++ [w] ++ l.drop (F ++ [w]).length) := by
     rw [← List.map_set]
     congr 1
     rw [List.set_append_right _ _ (Nat.le_refl _), Nat.sub_self, List.length_append, List.length_singleton, List.append_assoc]
     congr 1
     rw [List.drop_eq_getElem_cons (show F.length < l.length by omega)]
     rfl
    obtain ⟨u, hu⟩ := lt_get (l := l) (i := F.length) (by omega)
    have ru : (F ++ l.drop F.length)[F.length]? = some u := by
     rw [List.getElem?_append_right (Nat.le_refl _), List.getElem?_drop, ← hu]
     congr 1
     omega
    simp +decide -implicitDefEqProofs only [S0, simprocAttr, hwF, ru, hwj]
    refine ⟨by omega, ?_⟩
    exact Nxt.mk [] (j + 1) (by simp +decide -implicitDefEqProofs only [S0, simprocAttr, sn, List.length_append, List.length_singleton]) (by rw [sn, ← st]; simp +decide -implicitDefEqProofs only [S0, simprocAttr]) ⟨by omega, by omega⟩ (by omega)
  ·obtain rfl : j = l.length := by omega
   have ta := List.take_of_length_le (Nat.le_refl l.length)
   rw [ta] at lp lp2 ⊢
   generalize hF : partL a l = F at *
   have e1 : List.take F.length (List.map verC (F ++ List.drop F.length l)) = List.map verC F := by
    rw [← List.map_take, List.take_left]
   have e2 : List.drop (F.length + (l.length - F.length)) (List.map verC (F ++ List.drop F.length l)) = [] := by
    rw [List.drop_eq_nil_of_le]; simp
   simp +decide -implicitDefEqProofs only [S0, simprocAttr, h, Option.getD_some, e1, e2, List.append_nil]
   exact ⟨by omega, .inl (by omega), by simp, .inl (by omega), rfl⟩
def partE (l : List Vn) (a : Int) : Int := if chkSt l = 0 then (if 0 ≤ a ∧ a < 256 then 0 else 1) else chkSt l
theorem Part_ok (l : List Vn) (a : Int) : Ok Tryz.prog 77 [vers l, I a] (.tup [vers (if partE l a = 0 then partL a l else []), I (partE l a)]) := by
 refine Ok.of_wp (rs := [.tmp 4, .tmp 5]) (n := 20) Tryz.func77 rfl rfl rfl (by simp) fo (by kernel_rfl) ?_
 simp +decide -implicitDefEqProofs only [S0, simprocAttr]
 refine call_eq (stCheck_ok l) ?_
 by_cases h1 : chkSt l = 0
 ·have hl := chkSt_len h1
  simp +decide -implicitDefEqProofs only [S0, simprocAttr, h1]
  refine call_eq (Cats_ok a) ?_
  by_cases h2 : 0 ≤ a ∧ a < 256
  ·have e0 : partE l a = 0 := by rw [partE, if_pos h1, if_pos h2]
   have lp := partL_len a l
   rw [decide_eq_true h2]
   simp +decide -implicitDefEqProofs only [S0, simprocAttr]
   refine callH (cloneVersH_ok (l := l) (by omega)) [.l 16] ?_
   simp +decide -implicitDefEqProofs only [S0, simprocAttr]
   refine callH (delV_ok l (by omega) a) [.l 16, .l 3] ?_
   have e3 : List.take (partL a l).length (List.map verC (partL a l) ++ List.replicate (l.length - (partL a l).length) verZ) = List.map verC (partL a l) := List.take_left' (by simp)
   simp +decide -implicitDefEqProofs only [S0, simprocAttr, e3, Nat.le_add_right]
   refine call_eq (stCopied_ok (l := partL a l) (by omega) (fun v hv => chkSt_lens h1 v (List.mem_filter.1 hv).1)) ?_
   simp +decide -implicitDefEqProofs only [S0, simprocAttr, e0]
  ·have e0 : partE l a = 1 := by rw [partE, if_pos h1, if_neg h2]
   rw [decide_eq_false h2]
   simp +decide -implicitDefEqProofs only [S0, simprocAttr, e0]
 ·have e0 : partE l a = chkSt l := by rw [partE, if_neg h1]
  simp +decide -implicitDefEqProofs only [S0, simprocAttr, h1, e0]
end Go.Proofs.YtonolfpnidaflaaGreatDoor.E

namespace Go.Proofs.YtonolfpnidaflaaGreatDoor.E
open Go
set_option linter.unusedSimpArgs false
set_option linter.unusedVariables false
set_option linter.unusedSectionVars false
set_option maxRecDepth 20000
set_option maxHeartbeats 1000000
/-! Parts of parts. -/
theorem hid_iff {a : Nat} {v : Vn} (ha : a < 256) (hv : 0 ≤ v.r.cats ∧ v.r.cats < 256) : hid a v = false ↔ ∀ i, v.r.cats.toNat.testBit i = true → a.testBit i = true := by
 have e : v.r.cats = (v.r.cats.toNat : Int) := by omega
 unfold hid
 rw [Bool.not_eq_false', decide_eq_true_eq]
 generalize v.r.cats.toNat = c at e
 have hc : c < 256 := by omega
 rw [e, bnot_sub (by omega) (by omega)]
theorem mem_cats {l : List Vn} (h : chkSt l = 0) {v : Vn} (hv : v ∈ l) : 0 ≤ v.r.cats ∧ v.r.cats < 256 := (chkRec_iff.1 ((chkSt_len h).2 v hv)).2.1
theorem partL_all {l : List Vn} (h : chkSt l = 0) : partL (255 : Nat) l = l := by
 unfold partL
 rw [List.filter_eq_self]
 intro v hv
 have hv := mem_cats h hv
 rw [Bool.not_eq_true', hid_iff (by omega) hv]
 intro i hi
 have : v.r.cats.toNat < 2 ^ 8 := by omega
 have hi8 : i < 8 := Classical.byContradiction fun hn => by
  have := Nat.testBit_lt_two_pow (Nat.lt_of_lt_of_le this (Nat.pow_le_pow_right (by omega) (show 8 ≤ i by omega)))
  rw [hi] at this; cases this
 rw [show (255 : Nat) = 2 ^ 8 - 1 by rfl, Nat.testBit_two_pow_sub_one]
 simp [hi8]
theorem partL_add (a : Int) (l : List Vn) (v : Vn) : partL a (l ++ [v]) = if hid a v then partL a l else partL a l ++ [v] := by
 unfold partL
 rw [List.filter_append]
 cases e : hid a v with
 | true => simp [e]
 | false => simp [e]
theorem snoc_ind {α : Type} {P : List α → Prop} (h0 : P []) (h1 : ∀ l x, P l → P (l ++ [x])) (l : List α) : P l := by
 have key : ∀ n (l : List α), l.length = n → P l := by
  intro n
  induction n with
  | zero => intro l h; rw [List.eq_nil_of_length_eq_zero h]; exact h0
  | succ n ih =>
   intro l h
   have hne : l ≠ [] := fun e => by rw [e] at h; cases h
   rw [← List.dropLast_concat_getLast hne]
   exact h1 _ _ (ih _ (by rw [List.length_dropLast, h]; rfl))
 exact key l.length l rfl
/-- What may be seen has just aS many of its kinds in the part. -/
theorem cnt_part (a : Int) (l : List Vn) (c : Int) (hc : bnot c a = 0) : cnt (partL a l) c = cnt l c := by
 unfold cnt partL
 rw [List.filter_filter]
 congr 1
 refine List.filter_congr fun v _ => ?_
 by_cases h : v.r.cats = c
 ·simp [h, hid, hc]
 ·simp [h]
theorem lives_part (a : Int) (l : List Vn) (id : ByteArray) (c : Int) (hc : bnot c a = 0) : lives (partL a l) id c = lives l id c := by
 induction l using snoc_ind with
 | h0 => rfl
 | h1 l v ih =>
  rw [partL_add, lives_add]
  cases e : hid a v with
  | true =>
   rw [if_pos rfl, ih, lStep, if_neg]
   rintro ⟨_, h⟩
   unfold hid at e
   rw [h, hc] at e
   simp at e
  | false =>
   rw [if_neg (by simp), lives_add, ih]
theorem chkGo_part (a : Int) : ∀ (m p : List Vn), chkGo p m = 0 → chkGo (partL a p) (partL a m) = 0 := by
 intro m
 induction m with
 | nil => intro p _; rfl
 | cons v m ih =>
  intro p h
  simp only [chkGo] at h
  split at h
  ·rename_i h0
   have := ih _ h
   rw [partL_add] at this
   cases e : hid a v with
   | true =>
    rw [e, if_pos rfl] at this
    have e2 : partL a (v :: m) = partL a m := by unfold partL; rw [List.filter_cons, e]; rfl
    rw [e2]; exact this
   | false =>
    rw [e, if_neg (by simp)] at this
    have e2 : partL a (v :: m) = v :: partL a m := by unfold partL; rw [List.filter_cons, e]; rfl
    have hc : bnot v.r.cats a = 0 := by unfold hid at e; simpa using e
    rw [e2, chkGo]
    have e3 : stepE (partL a p) v = stepE p v := by unfold stepE; rw [cnt_part a p _ hc, lives_part a p _ _ hc]
    rw [e3, h0, if_pos rfl]
    exact this
  ·rename_i h0; exact absurd h h0
/-- A part of a store is a store. -/
theorem chkSt_part {a : Int} {l : List Vn} (h : chkSt l = 0) : chkSt (partL a l) = 0 := by
 have hl := (chkSt_len h).1
 have := partL_len a l
 unfold chkSt at h ⊢
 rw [if_neg (by omega)] at h ⊢
 exact chkGo_part a l [] h
theorem Part_okS {l : List Vn} {a : Nat} (h : chkSt l = 0) (ha : a < 256) : Ok Tryz.prog 77 [vers l, I a] (.tup [vers (partL a l), I 0]) := by
 have e : partE l a = 0 := by rw [partE, if_pos h, if_pos (by omega)]
 have := Part_ok l a
 rwa [e, if_pos rfl] at this
end Go.Proofs.YtonolfpnidaflaaGreatDoor.E

namespace Go.Proofs.YtonolfpnidaflaaGreatDoor.E
open Go
set_option linter.unusedSimpArgs false
set_option linter.unusedVariables false
set_option linter.unusedSectionVars false
set_option maxRecDepth 20000
theorem May_bad {up : List Int} {l : List Rl} {w : Wh} (c : Int) (h : ¬ seesE up l w = 0) : Ok Tryz.prog 72 [ints up, rules l, whoV w, I c] (.tup [B false, I (seesE up l w)]) := by
 refine Ok.of_wp (rs := [.tmp 8, .tmp 9]) (n := 29) Tryz.func72 rfl rfl rfl (by simp) fo (by kernel_rfl) ?_
 simp +decide -implicitDefEqProofs only [S0, simprocAttr]
 refine call_eq (Sees_bad h) ?_
 simp +decide -implicitDefEqProofs only [S0, simprocAttr, h]
theorem May_ok' {up : List Int} {l : List Rl} {w : Wh} {c : Nat} (h : askOk up w) (hl : l.length ≤ 20) (hr : ∀ r ∈ l, oneE r = 0) (hc : c < 256) : Ok Tryz.prog 72 [ints up, rules l, whoV w, I c] (.tup [B (decide (bnot c (seesF (fitsW up w) l : Nat) = 0)), I 0]) := by
 refine Ok.of_wp (rs := [.tmp 8, .tmp 9]) (n := 29) Tryz.func72 rfl rfl rfl (by simp) fo (by kernel_rfl) ?_
 simp +decide -implicitDefEqProofs only [S0, simprocAttr]
 refine call_eq (Sees_ok' h hl hr) ?_
 simp +decide -implicitDefEqProofs only [S0, simprocAttr]
 refine call_eq (Cats_ok c) ?_
 rw [decide_eq_true (show 0 ≤ (c : Int) ∧ (c : Int) < 256 by omega)]
 simp +decide -implicitDefEqProofs only [S0, simprocAttr]
 refine B_eq ?_
 rw [Bool.eq_iff_iff, beq_iff_eq, decide_eq_true_eq]
end Go.Proofs.YtonolfpnidaflaaGreatDoor.E
