/- Plain law: texts cut at a byte, joined, numbers read and written. No conditions. -/
import Derived.Lib.SplitLaws
import Derived.Lib.IndexBytes
import Derived.Lib.AtoiAllCases
import Derived.Lib.ItoaLen
import Derived.Lib.Join
import Derived.Lib.LastIndexLaws
namespace Go.Proofs.YtonolfpnidaflaaGreatDoor.E
open Go
set_option linter.unusedSimpArgs false
set_option linter.unusedVariables false
set_option linter.unusedSectionVars false
set_option maxRecDepth 20000
/-- The text of these bytes. -/
def bs (l : List UInt8) : ByteArray := ⟨l.toArray⟩
theorem bs_list (l : List UInt8) : (bs l).data.toList = l := rfl
theorem bs_eta (s : ByteArray) : bs s.data.toList = s := rfl
theorem bs_size (l : List UInt8) : (bs l).size = l.length := rfl
theorem bs_inj {a b : List UInt8} : bs a = bs b ↔ a = b := by
 constructor
 ·intro h; have := congrArg (fun s : ByteArray => s.data.toList) h; exact this
 ·rintro rfl; rfl
theorem ba_ext {s t : ByteArray} (h : s.data.toList = t.data.toList) : s = t := by rw [← bs_eta s, ← bs_eta t, h]
theorem ba_app (s t : ByteArray) : (s ++ t).data.toList = s.data.toList ++ t.data.toList := by
 rw [ByteArray.data_append, Array.toList_append]
theorem bs_app (a b : List UInt8) : bs a ++ bs b = bs (a ++ b) := ba_ext (by rw [ba_app]; rfl)
theorem ba_extract (s : ByteArray) (i j : Nat) : (s.extract i j).data.toList = (s.data.toList.take j).drop i := by
 rw [ByteArray.data_extract, Array.toList_extract, List.extract_eq_take_drop, List.drop_take]
theorem bs_extract (l : List UInt8) (i j : Nat) : (bs l).extract i j = bs ((l.take j).drop i) := ba_ext (by rw [ba_extract]; rfl)

/-- Cut at each c. -/
def splitC (c : UInt8) : List UInt8 → List (List UInt8)
 | [] => [[]]
 | x :: l => if x = c then [] :: splitC c l else match splitC c l with
  | [] => [[x]]
  | h :: t => (x :: h) :: t
theorem splitC_ne (c : UInt8) (l : List UInt8) : splitC c l ≠ [] := by
 cases l with
 | nil => simp [splitC]
 | cons x l =>
  rw [splitC]
  split
  ·simp
  ·split <;> simp
theorem splitC_none {c : UInt8} : ∀ {l : List UInt8}, c ∉ l → splitC c l = [l]
 | [], _ => rfl
 | x :: l, h => by
  simp only [List.mem_cons, not_or] at h
  rw [splitC, if_neg (Ne.symm h.1), splitC_none h.2]
theorem splitC_hit {c : UInt8} : ∀ {a b : List UInt8}, c ∉ a → splitC c (a ++ c :: b) = a :: splitC c b
 | [], b, _ => by simp [splitC]
 | x :: a, b, h => by
  simp only [List.mem_cons, not_or] at h
  rw [List.cons_append, splitC, if_neg (Ne.symm h.1), splitC_hit h.2]
theorem ib_none {c : UInt8} : ∀ {l : List UInt8}, c ∉ l → Lib.indexByte l c = -1
 | [], _ => rfl
 | x :: l, h => by
  simp only [List.mem_cons, not_or] at h
  rw [Lib.indexByte, if_neg (by simpa using Ne.symm h.1), ib_none h.2]; rfl
theorem ib_hit {c : UInt8} : ∀ {a b : List UInt8}, c ∉ a → Lib.indexByte (a ++ c :: b) c = a.length
 | [], b, _ => by simp [Lib.indexByte]
 | x :: a, b, h => by
  simp only [List.mem_cons, not_or] at h
  rw [List.cons_append, Lib.indexByte, if_neg (by simpa using Ne.symm h.1), ib_hit h.2, if_neg (by simp)]
  simp
theorem splitK_one (c : UInt8) : ∀ (k : Nat) (l : List UInt8), l.count c = k → Lib.splitK [c] 0 k l = splitC c l
 | 0, l, h => by
  rw [splitC_none (List.count_eq_zero.1 h)]; rfl
 | k + 1, l, h => by
  obtain ⟨a, b, rfl, hn⟩ := List.eq_append_cons_of_mem (List.count_pos_iff.1 (show 0 < l.count c by omega))
  rw [List.count_append, List.count_cons_self, List.count_eq_zero.2 hn] at h
  rw [splitC_hit hn, Lib.splitK, Lib.index_one, ib_hit hn, if_neg (by simp), ← splitK_one c k b (by omega)]
  simp
theorem splitB_one (c : UInt8) (s : ByteArray) : Lib.splitB ⟨#[c]⟩ 0 (Lib.countB s ⟨#[c]⟩) s = (splitC c s.data.toList).map bs := by
 have h := Lib.splitB_data ⟨#[c]⟩ 0 (Lib.countB s ⟨#[c]⟩) s
 rw [show (⟨#[c]⟩ : ByteArray).data.toList = [c] from rfl, splitK_one c _ _ (by rw [← Lib.count_one])] at h
 rw [← h, List.map_map]
 exact (List.map_id' _).symm.trans (List.map_congr_left fun x _ => (bs_eta x).symm)
/-- Put together, with c between. -/
def joinC (c : UInt8) : List (List UInt8) → List UInt8
 | [] => []
 | [x] => x
 | x :: y :: r => x ++ c :: joinC c (y :: r)
theorem join_one (c : UInt8) : ∀ l, Lib.join l [c] = joinC c l
 | [] => rfl
 | [x] => by simp [Lib.join_one, joinC]
 | x :: y :: r => by
  rw [joinC, ← join_one c (y :: r), Lib.join_cons, Lib.join_cons]
  simp [Lib.joinTail]
theorem join_split (c : UInt8) : ∀ l, joinC c (splitC c l) = l
 | [] => rfl
 | x :: l => by
  rw [splitC]
  have ih := join_split c l
  have hn := splitC_ne c l
  split
  ·rename_i h
   subst h
   cases e : splitC x l with
   | nil => exact absurd e hn
   | cons y r => rw [e] at ih; rw [joinC, ih]; rfl
  ·split
   ·rename_i e; exact absurd e hn
   ·rename_i y r e
    rw [e] at ih
    cases r with
    | nil => rw [joinC] at ih ⊢; rw [ih]
    | cons z r => rw [joinC] at ih ⊢; rw [List.cons_append, ih]
theorem split_join {c : UInt8} : ∀ {l : List (List UInt8)}, l ≠ [] → (∀ x ∈ l, c ∉ x) → splitC c (joinC c l) = l
 | [], h, _ => absurd rfl h
 | [x], _, h => splitC_none (h x (by simp))
 | x :: y :: r, _, h => by
  rw [joinC, splitC_hit (h x (by simp)), split_join (by simp) fun z hz => h z (by simp at hz ⊢; exact .inr hz)]
theorem joinC_mem {c x : UInt8} : ∀ {l : List (List UInt8)}, x ∈ joinC c l → x = c ∨ ∃ y ∈ l, x ∈ y
 | [], h => by simp [joinC] at h
 | [y], h => .inr ⟨y, by simp, h⟩
 | y :: z :: r, h => by
  rw [joinC, List.mem_append, List.mem_cons] at h
  rcases h with h | h | h
  ·exact .inr ⟨y, by simp, h⟩
  ·exact .inl h
  ·rcases joinC_mem h with h | ⟨u, hu, h⟩
   ·exact .inl h
   ·exact .inr ⟨u, List.mem_cons_of_mem _ hu, h⟩
theorem splitC_mem {c : UInt8} : ∀ {l y : List UInt8}, y ∈ splitC c l → c ∉ y
 | [], y, h => by simp [splitC] at h; simp [h]
 | x :: l, y, h => by
  rw [splitC] at h
  split at h
  ·rcases List.mem_cons.1 h with rfl | h
   ·simp
   ·exact splitC_mem h
  ·rename_i hx
   have ih := @splitC_mem c l
   split at h
   ·simp at h; subst h; simpa using Ne.symm hx
   ·rename_i y' r e
    rw [e] at ih
    rcases List.mem_cons.1 h with rfl | h
    ·simp only [List.mem_cons, not_or]
     exact ⟨Ne.symm hx, ih (by simp)⟩
    ·exact ih (List.mem_cons_of_mem _ h)
/-- A list, of which an empty text has nothing. -/
def splitE (c : UInt8) (l : List UInt8) : List (List UInt8) := if l = [] then [] else splitC c l
theorem join_splitE (c : UInt8) (l : List UInt8) : joinC c (splitE c l) = l := by
 unfold splitE
 split
 ·rename_i h; rw [h]; rfl
 ·exact join_split c l
theorem joinC_ne {c : UInt8} {l : List (List UInt8)} (h : l ≠ []) (hx : ∀ x ∈ l, x ≠ []) : joinC c l ≠ [] := by
 match l, h, hx with
 | [x], _, hx => exact hx x (by simp)
 | x :: y :: r, _, _ => simp [joinC]
theorem split_joinE {c : UInt8} {l : List (List UInt8)} (h : ∀ x ∈ l, c ∉ x ∧ x ≠ []) : splitE c (joinC c l) = l := by
 unfold splitE
 by_cases hl : l = []
 ·subst hl; rfl
 ·rw [if_neg (joinC_ne hl fun x hx => (h x hx).2), split_join hl fun x hx => (h x hx).1]

/-- Cut at the first c. -/
theorem cut_none {c : UInt8} {l : List UInt8} (h : c ∉ l) : Lib.cut l [c] = (l, [], false) := by
 rw [Lib.cut, Lib.index_one, ib_none h]; rfl
theorem cut_hit {c : UInt8} {a b : List UInt8} (h : c ∉ a) : Lib.cut (a ++ c :: b) [c] = (a, b, true) := by
 rw [Lib.cut, Lib.index_one, ib_hit h, if_pos (by omega)]
 simp
theorem cut_cases (c : UInt8) (l : List UInt8) : (c ∉ l ∧ Lib.cut l [c] = (l, [], false)) ∨ ∃ a b, l = a ++ c :: b ∧ c ∉ a ∧ Lib.cut l [c] = (a, b, true) := by
 by_cases h : c ∈ l
 ·obtain ⟨a, b, rfl, hn⟩ := List.eq_append_cons_of_mem h
  exact .inr ⟨a, b, rfl, hn, cut_hit hn⟩
 ·exact .inl ⟨h, cut_none h⟩

/-! ### Numbers -/
theorem digit_nat {d : Nat} (h : d < 10) : (UInt8.ofNat (48 + d)).toNat = 48 + d := by
 rw [UInt8.toNat_ofNat']; omega
theorem parse_digits : ∀ (u : Nat) (r : List UInt8), u < 10 ^ 18 → Lib.parseUint10 0 (Lib.decDigits u ++ r) = Lib.parseUint10 u r := by
 intro u
 induction u using Nat.strongRecOn with
 | _ u ih =>
  intro r hu
  rw [Lib.decDigits]
  by_cases h : u < 10
  ·rw [dif_pos h, List.singleton_append, Lib.parseUint10, digit_nat h, if_pos (by omega), if_neg (by omega), if_neg (by omega)]
   congr 1
   omega
  ·rw [dif_neg h, List.append_assoc, ih (u / 10) (by omega) _ (by omega), List.singleton_append, Lib.parseUint10, digit_nat (by omega), if_pos (by omega), if_neg (by omega), if_neg (by omega)]
   congr 1
   omega
theorem decDigits_ne (u : Nat) : Lib.decDigits u ≠ [] := by
 rw [Lib.decDigits]; split <;> simp
theorem decDigits_mem {x : UInt8} : ∀ {u : Nat}, x ∈ Lib.decDigits u → 48 ≤ x.toNat ∧ x.toNat ≤ 57 := by
 intro u
 induction u using Nat.strongRecOn with
 | _ u ih =>
  rw [Lib.decDigits]
  split
  ·rename_i h
   intro hx
   simp only [List.mem_singleton] at hx
   subst hx
   rw [digit_nat h]; omega
  ·intro hx
   rw [List.mem_append] at hx
   rcases hx with hx | hx
   ·exact ih (u / 10) (by omega) hx
   ·simp only [List.mem_singleton] at hx
    subst hx
    rw [digit_nat (by omega)]; omega
theorem decDigits_len : ∀ (k u : Nat), u < 10 ^ (k + 1) → (Lib.decDigits u).length ≤ k + 1
 | 0, u, h => by rw [Lib.decDigits, dif_pos (by omega)]; simp
 | k + 1, u, h => by
  rw [Lib.decDigits]
  split
  ·simp
  ·rw [List.length_append]
   have := decDigits_len k (u / 10) (by rw [Nat.pow_succ] at h; omega)
   simp only [List.length_singleton]
   omega
theorem parseMag_digits {u : Nat} (h : u < 10 ^ 18) : Lib.parseMag (Lib.decDigits u) = .ok u := by
 rw [Lib.parseMag, if_neg (decDigits_ne u), ← List.append_nil (Lib.decDigits u), parse_digits u [] h]
 rfl
theorem atoi_itoa {n : Int} (h : -(10 ^ 18) < n ∧ n < 10 ^ 18) : Lib.atoiAll (Lib.itoa n) = .ok n := by
 unfold Lib.itoa
 split
 ·rename_i h0
  rw [Lib.atoiAll_minus, parseMag_digits (by omega), Lib.signed, if_neg (by omega)]
  congr 1
  omega
 ·rename_i h0
  obtain ⟨c, r, e⟩ := List.exists_cons_of_ne_nil (decDigits_ne n.toNat)
  have hc := decDigits_mem (u := n.toNat) (x := c) (by rw [e]; simp)
  rw [e, Lib.atoiAll_plain _ _ (by omega) (by omega), ← e, parseMag_digits (by omega), Lib.signless, if_neg (by omega)]
  congr 1
  omega
/-- The number that is told, be it one or not. -/
def numA (l : List UInt8) : Int := match Lib.atoiAll l with
 | .ok n => n
 | .range => Lib.atoiSat l
 | _ => 0
/-- A number, written as it is written. -/
def numOk (l : List UInt8) : Option Int := match Lib.atoiAll l with
 | .ok n => if l.length ≤ 9 ∧ Lib.itoa n = l then some n else none
 | _ => none
theorem numOk_itoa {l : List UInt8} {n : Int} (h : numOk l = some n) : Lib.itoa n = l ∧ Lib.atoiAll l = .ok n ∧ l.length ≤ 9 := by
 unfold numOk at h
 split at h
 ·rename_i m e
  split at h
  ·rename_i h2
   cases h
   exact ⟨h2.2, e, h2.1⟩
  ·cases h
 ·cases h
theorem itoa_len {n : Int} (h : -(10 ^ 8) < n ∧ n < 10 ^ 9) : (Lib.itoa n).length ≤ 9 := by
 unfold Lib.itoa
 split
 ·have := decDigits_len 7 n.natAbs (by omega)
  simp; omega
 ·exact decDigits_len 8 n.toNat (by omega)
theorem numOk_of {n : Int} (h : -(10 ^ 8) < n ∧ n < 10 ^ 9) : numOk (Lib.itoa n) = some n := by
 unfold numOk
 rw [atoi_itoa ⟨by omega, by omega⟩]
 simp only [and_true]
 rw [if_pos (itoa_len h)]
theorem itoa_mem {x : UInt8} {n : Int} (h : x ∈ Lib.itoa n) : 45 ≤ x.toNat ∧ x.toNat ≤ 57 := by
 unfold Lib.itoa at h
 split at h
 ·rcases List.mem_cons.1 h with rfl | h
  ·decide
  ·have := decDigits_mem h; omega
 ·have := decDigits_mem h; omega
theorem itoa_ne (n : Int) : Lib.itoa n ≠ [] := by
 unfold Lib.itoa
 split
 ·simp
 ·exact decDigits_ne _
end Go.Proofs.YtonolfpnidaflaaGreatDoor.E
