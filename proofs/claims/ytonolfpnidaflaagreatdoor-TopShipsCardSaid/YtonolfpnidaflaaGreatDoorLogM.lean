/- Plain law: a line, its sum, its end. No conditions. -/
import Derived.Test.YtonolfpnidaflaaGreatDoorLogL
import Derived.Test.YtonolfpnidaflaaGreatDoorLogRd
namespace Go.Proofs.YtonolfpnidaflaaGreatDoor.E
open Go
set_option linter.unusedSimpArgs false
set_option linter.unusedVariables false
set_option linter.unusedSectionVars false
set_option maxRecDepth 20000
theorem occ_iff (s : List UInt8) (i : Nat) : Lib.occAt s [32, 61] i = true ↔ ∃ r, s.drop i = 32 :: 61 :: r := by
 unfold Lib.occAt
 constructor
 ·intro h
  obtain ⟨r, hr⟩ := List.isPrefixOf_iff_prefix.1 h
  exact ⟨r, hr.symm⟩
 ·rintro ⟨r, hr⟩
  rw [hr]
  exact List.isPrefixOf_iff_prefix.2 ⟨r, rfl⟩
theorem li_hit {p d : List UInt8} (hd : (61 : UInt8) ∉ d) : Lib.lastIndex (p ++ 32 :: 61 :: d) [32, 61] = p.length := by
 have hl : (p ++ 32 :: 61 :: d).length = p.length + d.length + 2 := by simp; omega
 have ho : Lib.occAt (p ++ 32 :: 61 :: d) [32, 61] p.length = true := (occ_iff _ _).2 ⟨d, by rw [List.drop_left]⟩
 unfold Lib.lastIndex
 rw [if_pos (by rw [hl]; simp)]
 rcases Lib.lastOcc_spec (p ++ 32 :: 61 :: d) [32, 61] ((p ++ 32 :: 61 :: d).length - ([32, 61] : List UInt8).length + 1) with ⟨_, h⟩ | ⟨i, h1, h2, h3, h4⟩
 ·rw [h p.length (by rw [hl]; simp; omega)] at ho; cases ho
 ·rw [h2]
  obtain ⟨r, hr⟩ := (occ_iff _ _).1 h3
  have hi : i = p.length := by
   rcases Nat.lt_trichotomy i p.length with hlt | he | hgt
   ·rw [h4 p.length hlt (by rw [hl]; simp; omega)] at ho; cases ho
   ·exact he
   ·exfalso
    obtain ⟨m, rfl⟩ : ∃ m, i = p.length + (m + 1) := ⟨i - p.length - 1, by omega⟩
    rw [← List.drop_drop, List.drop_left, List.drop_succ_cons] at hr
    cases m with
    | zero => simp at hr
    | succ m =>
     rw [List.drop_succ_cons] at hr
     apply hd
     have : (61 : UInt8) ∈ d.drop m := by rw [hr]; simp
     exact List.mem_of_mem_drop this
  rw [hi]
/-- The last one: what stands ahead, and behind. -/
theorem li_some {l : List UInt8} {k : Nat} (h : Lib.lastIndex l [32, 61] = k) : l = l.take k ++ 32 :: 61 :: l.drop (k + 2) := by
 rcases li_cases l with e | ⟨i, e, _, ho⟩
 ·rw [e] at h; omega
 ·obtain rfl : i = k := by omega
  obtain ⟨r, hr⟩ := (occ_iff _ _).1 ho
  have h2 : l.drop (i + 2) = r := by rw [← List.drop_drop, hr]; rfl
  rw [h2]
  conv => lhs; rw [← List.take_append_drop i l, hr]
theorem two_li {p d q e : List UInt8} (hd : (61 : UInt8) ∉ d) (he : (61 : UInt8) ∉ e) (h : p ++ 32 :: 61 :: d = q ++ 32 :: 61 :: e) : p = q ∧ d = e := by
 have h1 := li_hit (p := p) hd
 rw [h, li_hit he] at h1
 have h2 : p.length = q.length := by omega
 obtain ⟨h3, h4⟩ := List.append_inj h h2
 exact ⟨h3, by simpa using h4⟩
theorem sum_lt (l : List UInt8) : sumL l < 65521 := sumL_lt l 0 0 (by omega)
theorem sumOk_itoa {n : Nat} (h : n < 65521) : sumOk (Lib.itoa (n : Int)) = some n := by
 unfold sumOk
 rw [atoi_itoa ⟨by omega, by omega⟩]
 show (if 0 ≤ (n : Int) ∧ (n : Int) ≤ 65520 ∧ Lib.itoa (n : Int) = Lib.itoa (n : Int) then some (n : Int).toNat else none) = some n
 rw [if_pos ⟨by omega, by omega, rfl⟩, Int.toNat_natCast]
theorem sumOk_inv {l : List UInt8} {n : Nat} (h : sumOk l = some n) : Lib.itoa (n : Int) = l ∧ n ≤ 65520 := by
 unfold sumOk at h
 split at h
 ·rename_i m e
  split at h
  ·rename_i h2
   cases h
   rw [Int.toNat_of_nonneg h2.1]
   exact ⟨h2.2.2, by omega⟩
  ·cases h
 ·cases h
theorem opW_of {o : OpS} (h : chkOp o = 0) : OpW o := by
 rcases chkOp_cases h with ⟨h1, h2⟩ | ⟨h1, h2, h3⟩ | ⟨h1, h2, h3, h4⟩
 ·refine ⟨fun _ r hr => ?_, fun e => by omega, fun e => by omega, .inl h1⟩
  obtain ⟨g1, g2, g3, g4⟩ := (chkRs_good h2).2 r hr
  exact ⟨by omega, by omega, by omega, by omega, by omega⟩
 ·exact ⟨fun e => by omega, fun _ => ⟨h2, (chkRec_good _).1 h3⟩, fun e => by omega, .inr (.inl h1)⟩
 ·exact ⟨fun e => by omega, fun e => by omega, fun _ => ⟨h2, h3, h4⟩, .inr (.inr h1)⟩
theorem chk_plainO {o : OpS} (h : chkOp o = 0) : chkOp (plainO o) = 0 := by
 rcases chkOp_cases h with ⟨h1, h2⟩ | ⟨h1, h2, h3⟩ | ⟨h1, h2, h3, h4⟩
 ·rw [plainO, if_pos h1]; exact h2
 ·rw [plainO, if_neg (by omega), if_pos h1]
  show (if whoOk o.who = true then chkRec o.rcd else 1) = 0
  rw [if_pos h2]; exact h3
 ·rw [plainO, if_neg (by omega), if_neg (by omega)]
  show (if (whoOk o.who && catOk o.rcd.cats) = true then (if idOk o.id = true then (0 : Int) else 3) else 1) = 0
  rw [if_pos (by rw [h2, show catOk o.rcd.cats = true from decide_eq_true h3]; rfl), if_pos h4]
/-- A line without its end. -/
def bodyL (o : OpS) : List UInt8 := plainL o ++ 32 :: 61 :: Lib.itoa (sumL (plainL o))
theorem lineL_body (o : OpS) : lineL o = bodyL o ++ [10] := by simp [lineL, bodyL]
theorem itoa61 (n : Int) : (61 : UInt8) ∉ Lib.itoa n := itoa_no' n (.inr (.inr rfl))
theorem line_fwd {o : OpS} (h : chkOp o = 0) : lineC (bodyL o) = 0 ∧ lineO (bodyL o) = plainO o := by
 have h1 : Lib.lastIndex (bodyL o) [32, 61] = (plainL o).length := li_hit (itoa61 _)
 have ht : (bodyL o).take (plainL o).length = plainL o := List.take_left
 have hd : (bodyL o).drop ((plainL o).length + 2) = Lib.itoa (sumL (plainL o)) := by
  rw [← List.drop_drop, bodyL, List.drop_left]; rfl
 have hp := parse_plain (opW_of h)
 have hC : lineC (bodyL o) = 0 := by
  rw [lineC_some h1, hd, ht, sumOk_itoa (sum_lt _), lineR, if_neg (by simp), bodyC, hp]
  exact chk_plainO h
 refine ⟨hC, ?_⟩
 rw [lineO_some h1, if_pos hC, ht, hp]
theorem line_inv {l : List UInt8} (h : lineC l = 0) : chkOp (lineO l) = 0 ∧ bodyL (lineO l) = l ∧ (parseL (plainL (lineO l))).1 = lineO l := by
 have h0 := h
 rcases li_cases l with e | ⟨k, e, hkl, _⟩
 ·rw [lineC_none e] at h; cases h
 ·rw [lineC_some e] at h
  have hl := li_some e
  cases hs : sumOk (l.drop (k + 2)) with
  | none => rw [hs] at h; cases h
  | some n =>
   rw [hs, lineR] at h
   split at h
   ·cases h
   ·rename_i hn
    have hn : n = sumL (l.take k) := by simpa using hn
    unfold bodyC at h
    split at h
    ·rename_i hp
     have ho : lineO l = (parseL (l.take k)).1 := by rw [lineO_some e, if_pos h0]
     have hpl := parseL_inv hp
     rw [ho]
     refine ⟨h, ?_, by rw [hpl]⟩
     rw [bodyL, hpl, ← hn, (sumOk_inv hs).1]
     exact hl.symm
    ·cases h
theorem body_no {o : OpS} (h : OpW o) : (10 : UInt8) ∉ bodyL o := by
 have h1 : (10 : UInt8) ∉ plainL o := by
  rw [plainL_words]
  intro hx
  rcases joinC_mem hx with h' | ⟨y, hy, h'⟩
  ·cases h'
  ·exact words_no h (.inr rfl) y hy h'
 unfold bodyL
 simp only [List.mem_append, List.mem_cons, not_or]
 exact ⟨h1, by decide, by decide, itoa_no' _ (.inr (.inl rfl))⟩
theorem lnC_nl {p r : List UInt8} (hp : (10 : UInt8) ∉ p) : lnC (p ++ 10 :: r) = lineC p ∧ lnO (p ++ 10 :: r) = (if lineC p = 0 then lineO p else noOp) ∧ lnN (p ++ 10 :: r) = (if lineC p = 0 then (p.length : Int) + 1 else 0) := by
 have hib : Lib.indexByte (p ++ 10 :: r) 10 = p.length := ib_hit hp
 have kC : lnC (p ++ 10 :: r) = lineC p := by rw [lnC, hib, if_neg (by omega), Int.toNat_natCast, List.take_left]
 refine ⟨kC, ?_, ?_⟩
 ·rw [lnO, kC, hib, Int.toNat_natCast, List.take_left]
 ·rw [lnN, kC, hib]
theorem lnC_none {s : List UInt8} (h : (10 : UInt8) ∉ s) : lnC s = 7 ∧ lnO s = noOp ∧ lnN s = 0 := by
 have hib : Lib.indexByte s 10 = -1 := ib_none h
 have kC : lnC s = 7 := by rw [lnC, hib]; rfl
 exact ⟨kC, by rw [lnO, kC]; rfl, by rw [lnN, kC]; rfl⟩
/-- What was written is read as it was, whatever is behind it. -/
theorem ln_fwd {o : OpS} (h : chkOp o = 0) (more : List UInt8) : lnC (lineL o ++ more) = 0 ∧ lnO (lineL o ++ more) = plainO o ∧ lnN (lineL o ++ more) = ((lineL o).length : Nat) := by
 obtain ⟨h1, h2⟩ := line_fwd h
 obtain ⟨a, b, c⟩ := lnC_nl (r := more) (body_no (opW_of h))
 rw [lineL_body, List.append_assoc, List.singleton_append, a, b, c, h1, h2]
 exact ⟨rfl, rfl, by simp⟩
/-- What is read is written as it was. -/
theorem ln_inv {s : List UInt8} (h : lnC s = 0) : chkOp (lnO s) = 0 ∧ ∃ r, s = lineL (lnO s) ++ r ∧ lnN s = ((lineL (lnO s)).length : Nat) := by
 by_cases h10 : (10 : UInt8) ∈ s
 ·obtain ⟨p, r, rfl, hp⟩ := List.eq_append_cons_of_mem h10
  obtain ⟨a, b, c⟩ := lnC_nl (r := r) hp
  rw [a] at h
  obtain ⟨h1, h2, _⟩ := line_inv h
  rw [b, c, if_pos h, if_pos h]
  refine ⟨h1, r, ?_, ?_⟩
  ·rw [lineL_body, h2]; simp
  ·rw [lineL_body, h2]; simp
 ·rw [(lnC_none h10).1] at h; cases h
theorem ln_bad {s : List UInt8} (h : lnC s ≠ 0) : lnO s = noOp ∧ lnN s = 0 := by
 rw [lnO, lnN, if_neg h, if_neg h]
 exact ⟨rfl, rfl⟩
/-- What is read has who asks, as an operation that may be has. -/
theorem lnO_who {s : List UInt8} : whoI (lnO s).who := by
 by_cases h : lnC s = 0
 ·obtain ⟨h1, _⟩ := ln_inv h
  rcases chkOp_cases h1 with ⟨h2, _⟩ | ⟨_, h2, _⟩ | ⟨_, h2, _⟩
  ·have hz : (lnO s).who = ⟨0, 0, 0⟩ := by
    by_cases h10 : (10 : UInt8) ∈ s
    ·obtain ⟨p, r, rfl, hp⟩ := List.eq_append_cons_of_mem h10
     obtain ⟨a, b, _⟩ := lnC_nl (r := r) hp
     rw [a] at h
     obtain ⟨h3, _, h5⟩ := line_inv h
     rw [b, if_pos h] at h2 ⊢
     have h6 := parse_plain (opW_of h3)
     rw [h6, plainO, if_pos h2] at h5
     rw [← h5]; rfl
    ·rw [(lnC_none h10).1] at h; cases h
   rw [hz]
   exact ⟨⟨by simp, by simp⟩, ⟨by simp, by simp⟩, ⟨by simp, by simp⟩⟩
  ·exact whoOk_I h2
  ·exact whoOk_I h2
 ·rw [(ln_bad h).1]
  exact ⟨⟨by simp [noOp], by simp [noOp]⟩, ⟨by simp [noOp], by simp [noOp]⟩, ⟨by simp [noOp], by simp [noOp]⟩⟩
theorem ln_ext {s : ByteArray} (h : lnC s.data.toList = 0) : (lineL (lnO s.data.toList)).length ≤ s.size ∧ s.extract 0 (lineL (lnO s.data.toList)).length = bs (lineL (lnO s.data.toList)) := by
 obtain ⟨_, r, g2, _⟩ := ln_inv h
 have hsz := size_eq s
 generalize lineL (lnO s.data.toList) = L at *
 refine ⟨by rw [hsz, g2]; simp, ba_ext ?_⟩
 rw [ba_extract, g2, bs_list]
 simp
end Go.Proofs.YtonolfpnidaflaaGreatDoor.E
