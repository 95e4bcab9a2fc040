/- Several texts in one: TxtP RecT LogP StrC RecW LogW. No conditions. -/
import Derived.Lib.SplitLaws
import Derived.Lib.IndexBytes
import Derived.Lib.AtoiAllCases
import Derived.Lib.ItoaLen
import Derived.Lib.Join
import Derived.Lib.LastIndexLaws
import Derived.Test.YtonolfpnidaflaaGreatDoorGSt
import Derived.Test.YtonolfpnidaflaaGreatDoorGSv
import Derived.Test.YtonolfpnidaflaaGreatDoorTab
import Derived.Test.YtonolfpnidaflaaGreatDoorShelf
import Derived.Lib.LaidTab
import Derived.Lib.AppendIntMem
import Derived.Lib.AtoiErrMem
import Derived.Lib.SmallJoins
import Derived.WalkSmall
namespace Go.Proofs.YtonolfpnidaflaaGreatDoor.E
open Go
set_option linter.unusedSimpArgs false
set_option linter.unusedVariables false
set_option linter.unusedSectionVars false
set_option maxRecDepth 20000
/-- The text of these bytes. -/
def bs (l : List UInt8) : ByteArray := ⟨l.toArray⟩
theorem bs_list (l : List UInt8) : (bs l).data.toList = l := rfl
theorem bs_eta (s : ByteArray) : bs s.data.toList = s := rfl
theorem bs_size (l : List UInt8) : (bs l).size = l.length := rfl
theorem bs_inj {a b : List UInt8} : bs a = bs b ↔ a = b := by
 constructor
 ·intro h; have := congrArg (fun s : ByteArray => s.data.toList) h; exact this
 ·rintro rfl; rfl
theorem ba_ext {s t : ByteArray} (h : s.data.toList = t.data.toList) : s = t := by rw [← bs_eta s, ← bs_eta t, h]
theorem ba_app (s t : ByteArray) : (s ++ t).data.toList = s.data.toList ++ t.data.toList := by
 rw [ByteArray.data_append, Array.toList_append]
/-- Cut at each c. -/
def splitC (c : UInt8) : List UInt8 → List (List UInt8)
 | [] => [[]]
 | x :: l => if x = c then [] :: splitC c l else match splitC c l with
  | [] => [[x]]
  | h :: t => (x :: h) :: t
theorem splitC_ne (c : UInt8) (l : List UInt8) : splitC c l ≠ [] := by
 cases l with
 | nil => simp [splitC]
 | cons x l =>
  rw [splitC]
  split
  ·simp
  ·split <;> simp
theorem splitC_none {c : UInt8} : ∀ {l : List UInt8}, c ∉ l → splitC c l = [l]
 | [], _ => rfl
 | x :: l, h => by
  simp only [List.mem_cons, not_or] at h
  rw [splitC, if_neg (Ne.symm h.1), splitC_none h.2]
theorem splitC_hit {c : UInt8} : ∀ {a b : List UInt8}, c ∉ a → splitC c (a ++ c :: b) = a :: splitC c b
 | [], b, _ => by simp [splitC]
 | x :: a, b, h => by
  simp only [List.mem_cons, not_or] at h
  rw [List.cons_append, splitC, if_neg (Ne.symm h.1), splitC_hit h.2]
theorem ib_none {c : UInt8} : ∀ {l : List UInt8}, c ∉ l → Lib.indexByte l c = -1
 | [], _ => rfl
 | x :: l, h => by
  simp only [List.mem_cons, not_or] at h
  rw [Lib.indexByte, if_neg (by simpa using Ne.symm h.1), ib_none h.2]; rfl
theorem ib_hit {c : UInt8} : ∀ {a b : List UInt8}, c ∉ a → Lib.indexByte (a ++ c :: b) c = a.length
 | [], b, _ => by simp [Lib.indexByte]
 | x :: a, b, h => by
  simp only [List.mem_cons, not_or] at h
  rw [List.cons_append, Lib.indexByte, if_neg (by simpa using Ne.symm h.1), ib_hit h.2, if_neg (by simp)]
  simp
theorem splitK_one (c : UInt8) : ∀ (k : Nat) (l : List UInt8), l.count c = k → Lib.splitK [c] 0 k l = splitC c l
 | 0, l, h => by
  rw [splitC_none (List.count_eq_zero.1 h)]; rfl
 | k + 1, l, h => by
  obtain ⟨a, b, rfl, hn⟩ := List.eq_append_cons_of_mem (List.count_pos_iff.1 (show 0 < l.count c by omega))
  rw [List.count_append, List.count_cons_self, List.count_eq_zero.2 hn] at h
  rw [splitC_hit hn, Lib.splitK, Lib.index_one, ib_hit hn, if_neg (by simp), ← splitK_one c k b (by omega)]
  simp
theorem splitB_one (c : UInt8) (s : ByteArray) : Lib.splitB ⟨#[c]⟩ 0 (Lib.countB s ⟨#[c]⟩) s = (splitC c s.data.toList).map bs := by
 have h := Lib.splitB_data ⟨#[c]⟩ 0 (Lib.countB s ⟨#[c]⟩) s
 rw [show (⟨#[c]⟩ : ByteArray).data.toList = [c] from rfl, splitK_one c _ _ (by rw [← Lib.count_one])] at h
 rw [← h, List.map_map]
 exact (List.map_id' _).symm.trans (List.map_congr_left fun x _ => (bs_eta x).symm)
/-- Put together, with c between. -/
def joinC (c : UInt8) : List (List UInt8) → List UInt8
 | [] => []
 | [x] => x
 | x :: y :: r => x ++ c :: joinC c (y :: r)
theorem join_one (c : UInt8) : ∀ l, Lib.join l [c] = joinC c l
 | [] => rfl
 | [x] => by simp [Lib.join_one, joinC]
 | x :: y :: r => by
  rw [joinC, ← join_one c (y :: r), Lib.join_cons, Lib.join_cons]
  simp [Lib.joinTail]
theorem join_split (c : UInt8) : ∀ l, joinC c (splitC c l) = l
 | [] => rfl
 | x :: l => by
  rw [splitC]
  have ih := join_split c l
  have hn := splitC_ne c l
  split
  ·rename_i h
   subst h
   cases e : splitC x l with
   | nil => exact absurd e hn
   | cons y r => rw [e] at ih; rw [joinC, ih]; rfl
  ·split
   ·rename_i e; exact absurd e hn
   ·rename_i y r e
    rw [e] at ih
    cases r with
    | nil => rw [joinC] at ih ⊢; rw [ih]
    | cons z r => rw [joinC] at ih ⊢; rw [List.cons_append, ih]
theorem split_join {c : UInt8} : ∀ {l : List (List UInt8)}, l ≠ [] → (∀ x ∈ l, c ∉ x) → splitC c (joinC c l) = l
 | [], h, _ => absurd rfl h
 | [x], _, h => splitC_none (h x (by simp))
 | x :: y :: r, _, h => by
  rw [joinC, splitC_hit (h x (by simp)), split_join (by simp) fun z hz => h z (by simp at hz ⊢; exact .inr hz)]
theorem joinC_mem {c x : UInt8} : ∀ {l : List (List UInt8)}, x ∈ joinC c l → x = c ∨ ∃ y ∈ l, x ∈ y
 | [], h => by simp [joinC] at h
 | [y], h => .inr ⟨y, by simp, h⟩
 | y :: z :: r, h => by
  rw [joinC, List.mem_append, List.mem_cons] at h
  rcases h with h | h | h
  ·exact .inr ⟨y, by simp, h⟩
  ·exact .inl h
  ·rcases joinC_mem h with h | ⟨u, hu, h⟩
   ·exact .inl h
   ·exact .inr ⟨u, List.mem_cons_of_mem _ hu, h⟩
theorem splitC_mem {c : UInt8} : ∀ {l y : List UInt8}, y ∈ splitC c l → c ∉ y
 | [], y, h => by simp [splitC] at h; simp [h]
 | x :: l, y, h => by
  rw [splitC] at h
  split at h
  ·rcases List.mem_cons.1 h with rfl | h
   ·simp
   ·exact splitC_mem h
  ·rename_i hx
   have ih := @splitC_mem c l
   split at h
   ·simp at h; subst h; simpa using Ne.symm hx
   ·rename_i y' r e
    rw [e] at ih
    rcases List.mem_cons.1 h with rfl | h
    ·simp only [List.mem_cons, not_or]
     exact ⟨Ne.symm hx, ih (by simp)⟩
    ·exact ih (List.mem_cons_of_mem _ h)
/-- A list, of which an empty text has nothing. -/
def splitE (c : UInt8) (l : List UInt8) : List (List UInt8) := if l = [] then [] else splitC c l
theorem join_splitE (c : UInt8) (l : List UInt8) : joinC c (splitE c l) = l := by
 unfold splitE
 split
 ·rename_i h; rw [h]; rfl
 ·exact join_split c l
theorem joinC_ne {c : UInt8} {l : List (List UInt8)} (h : l ≠ []) (hx : ∀ x ∈ l, x ≠ []) : joinC c l ≠ [] := by
 match l, h, hx with
 | [x], _, hx => exact hx x (by simp)
 | x :: y :: r, _, _ => simp [joinC]
theorem split_joinE {c : UInt8} {l : List (List UInt8)} (h : ∀ x ∈ l, c ∉ x ∧ x ≠ []) : splitE c (joinC c l) = l := by
 unfold splitE
 by_cases hl : l = []
 ·subst hl; rfl
 ·rw [if_neg (joinC_ne hl fun x hx => (h x hx).2), split_join hl fun x hx => (h x hx).1]

/-- Cut at the first c. -/
theorem cut_none {c : UInt8} {l : List UInt8} (h : c ∉ l) : Lib.cut l [c] = (l, [], false) := by
 rw [Lib.cut, Lib.index_one, ib_none h]; rfl
theorem cut_hit {c : UInt8} {a b : List UInt8} (h : c ∉ a) : Lib.cut (a ++ c :: b) [c] = (a, b, true) := by
 rw [Lib.cut, Lib.index_one, ib_hit h, if_pos (by omega)]
 simp
theorem cut_cases (c : UInt8) (l : List UInt8) : (c ∉ l ∧ Lib.cut l [c] = (l, [], false)) ∨ ∃ a b, l = a ++ c :: b ∧ c ∉ a ∧ Lib.cut l [c] = (a, b, true) := by
 by_cases h : c ∈ l
 ·obtain ⟨a, b, rfl, hn⟩ := List.eq_append_cons_of_mem h
  exact .inr ⟨a, b, rfl, hn, cut_hit hn⟩
 ·exact .inl ⟨h, cut_none h⟩

/-! ### Numbers -/
theorem digit_nat {d : Nat} (h : d < 10) : (UInt8.ofNat (48 + d)).toNat = 48 + d := by
 rw [UInt8.toNat_ofNat']; omega
theorem parse_digits : ∀ (u : Nat) (r : List UInt8), u < 10 ^ 18 → Lib.parseUint10 0 (Lib.decDigits u ++ r) = Lib.parseUint10 u r := by
 intro u
 induction u using Nat.strongRecOn with
 | _ u ih =>
  intro r hu
  rw [Lib.decDigits]
  by_cases h : u < 10
  ·rw [dif_pos h, List.singleton_append, Lib.parseUint10, digit_nat h, if_pos (by omega), if_neg (by omega), if_neg (by omega)]
   congr 1
   omega
  ·rw [dif_neg h, List.append_assoc, ih (u / 10) (by omega) _ (by omega), List.singleton_append, Lib.parseUint10, digit_nat (by omega), if_pos (by omega), if_neg (by omega), if_neg (by omega)]
   congr 1
   omega
theorem decDigits_ne (u : Nat) : Lib.decDigits u ≠ [] := by
 rw [Lib.decDigits]; split <;> simp
theorem decDigits_mem {x : UInt8} : ∀ {u : Nat}, x ∈ Lib.decDigits u → 48 ≤ x.toNat ∧ x.toNat ≤ 57 := by
 intro u
 induction u using Nat.strongRecOn with
 | _ u ih =>
  rw [Lib.decDigits]
  split
  ·rename_i h
   intro hx
   simp only [List.mem_singleton] at hx
   subst hx
   rw [digit_nat h]; omega
  ·intro hx
   rw [List.mem_append] at hx
   rcases hx with hx | hx
   ·exact ih (u / 10) (by omega) hx
   ·simp only [List.mem_singleton] at hx
    subst hx
    rw [digit_nat (by omega)]; omega
theorem decDigits_len : ∀ (k u : Nat), u < 10 ^ (k + 1) → (Lib.decDigits u).length ≤ k + 1
 | 0, u, h => by rw [Lib.decDigits, dif_pos (by omega)]; simp
 | k + 1, u, h => by
  rw [Lib.decDigits]
  split
  ·simp
  ·rw [List.length_append]
   have := decDigits_len k (u / 10) (by rw [Nat.pow_succ] at h; omega)
   simp only [List.length_singleton]
   omega
theorem parseMag_digits {u : Nat} (h : u < 10 ^ 18) : Lib.parseMag (Lib.decDigits u) = .ok u := by
 rw [Lib.parseMag, if_neg (decDigits_ne u), ← List.append_nil (Lib.decDigits u), parse_digits u [] h]
 rfl
theorem atoi_itoa {n : Int} (h : -(10 ^ 18) < n ∧ n < 10 ^ 18) : Lib.atoiAll (Lib.itoa n) = .ok n := by
 unfold Lib.itoa
 split
 ·rename_i h0
  rw [Lib.atoiAll_minus, parseMag_digits (by omega), Lib.signed, if_neg (by omega)]
  congr 1
  omega
 ·rename_i h0
  obtain ⟨c, r, e⟩ := List.exists_cons_of_ne_nil (decDigits_ne n.toNat)
  have hc := decDigits_mem (u := n.toNat) (x := c) (by rw [e]; simp)
  rw [e, Lib.atoiAll_plain _ _ (by omega) (by omega), ← e, parseMag_digits (by omega), Lib.signless, if_neg (by omega)]
  congr 1
  omega
/-- The number that is told, be it one or not. -/
def numA (l : List UInt8) : Int := match Lib.atoiAll l with
 | .ok n => n
 | .range => Lib.atoiSat l
 | _ => 0
/-- A number, written aS it is written. -/
def numOk (l : List UInt8) : Option Int := match Lib.atoiAll l with
 | .ok n => if l.length ≤ 9 ∧ Lib.itoa n = l then some n else none
 | _ => none
theorem numOk_itoa {l : List UInt8} {n : Int} (h : numOk l = some n) : Lib.itoa n = l ∧ Lib.atoiAll l = .ok n ∧ l.length ≤ 9 := by
 unfold numOk at h
 split at h
 ·rename_i m e
  split at h
  ·rename_i h2
   cases h
   exact ⟨h2.2, e, h2.1⟩
  ·cases h
 ·cases h
theorem itoa_len {n : Int} (h : -(10 ^ 8) < n ∧ n < 10 ^ 9) : (Lib.itoa n).length ≤ 9 := by
 unfold Lib.itoa
 split
 ·have := decDigits_len 7 n.natAbs (by omega)
  simp; omega
 ·exact decDigits_len 8 n.toNat (by omega)
theorem numOk_of {n : Int} (h : -(10 ^ 8) < n ∧ n < 10 ^ 9) : numOk (Lib.itoa n) = some n := by
 unfold numOk
 rw [atoi_itoa ⟨by omega, by omega⟩]
 simp only [and_true]
 rw [if_pos (itoa_len h)]
theorem itoa_mem {x : UInt8} {n : Int} (h : x ∈ Lib.itoa n) : 45 ≤ x.toNat ∧ x.toNat ≤ 57 := by
 unfold Lib.itoa at h
 split at h
 ·rcases List.mem_cons.1 h with rfl | h
  ·decide
  ·have := decDigits_mem h; omega
 ·have := decDigits_mem h; omega
end Go.Proofs.YtonolfpnidaflaaGreatDoor.E

namespace Go.Proofs.YtonolfpnidaflaaGreatDoor.E
open Go
set_option linter.unusedSimpArgs false
set_option linter.unusedVariables false
set_option linter.unusedSectionVars false
set_option maxRecDepth 20000
def fdL (f : Fd) : List UInt8 := f.key.data.toList ++ 61 :: f.val.data.toList
def recL (r : Rc) : List UInt8 := r.id.data.toList ++ 59 :: (Lib.itoa r.cats ++ 59 :: (joinC 44 (r.fields.map fdL) ++ 59 :: joinC 44 (r.refs.map fun s => s.data.toList)))
def wrL (r : Rc) : List UInt8 := if chkRec r = 0 then recL r else []
def noRc : Rc := ⟨⟨#[]⟩, 0, [], []⟩
def ofFd (l : List UInt8) : Option Fd := if 61 ∈ l then some ⟨bs (Lib.cut l [61]).1, bs (Lib.cut l [61]).2.1⟩ else none
def ofFds : List (List UInt8) → Option (List Fd)
 | [] => some []
 | w :: l => match ofFd w with
  | none => none
  | some f => (ofFds l).map (f :: ·)
/-- What a text of four parts says; whether it may be is not asked. -/
def rawRc (l : List UInt8) : Option Rc := match splitC 59 l with
 | [a, b, c, d] => match numOk b with
  | none => none
  | some n => match ofFds (splitE 44 c) with
   | none => none
   | some fs => some ⟨bs a, n, fs, (splitE 44 d).map bs⟩
 | _ => none
def readC (l : List UInt8) : Int := match rawRc l with
 | none => 10
 | some r => chkRec r
def readR (l : List UInt8) : Rc := match rawRc l with
 | none => noRc
 | some r => if chkRec r = 0 then r else noRc
theorem idOk_mem {s : ByteArray} (h : idOk s = true) {x : UInt8} (hx : x ∈ s.data.toList) : idB x = true := by
 simp only [idOk, Bool.and_eq_true, List.all_eq_true] at h
 exact h.2 x hx
theorem idOk_ne {s : ByteArray} (h : idOk s = true) : s.data.toList ≠ [] := by
 intro e
 simp only [idOk, Bool.and_eq_true, Bool.not_eq_true', decide_eq_false_iff_not] at h
 apply h.1.1
 rw [size_eq, e]; rfl
theorem valOk_mem {s : ByteArray} (h : valOk s = true) {x : UInt8} (hx : x ∈ s.data.toList) : valB x = true := by
 simp only [valOk, Bool.and_eq_true, List.all_eq_true] at h
 exact h.2 x hx
theorem id_no {s : ByteArray} (h : idOk s = true) {c : UInt8} (hc : idB c = false) : c ∉ s.data.toList := fun hx => by rw [idOk_mem h hx] at hc; cases hc
theorem val_no {s : ByteArray} (h : valOk s = true) {c : UInt8} (hc : valB c = false) : c ∉ s.data.toList := fun hx => by rw [valOk_mem h hx] at hc; cases hc
theorem fOk_mem {f : Fd} : ∀ {l : List Fd} {p : Option ByteArray}, fOk p l = true → f ∈ l → idOk f.key = true ∧ valOk f.val = true
 | [], _, _, h => by cases h
 | g :: l, p, h, hm => by
  simp only [fOk, Bool.and_eq_true] at h
  rcases List.mem_cons.1 hm with rfl | hm
  ·exact ⟨h.1, h.2.1⟩
  ·exact fOk_mem h.2.2.2 hm
theorem rOk_mem {s : ByteArray} : ∀ {l : List ByteArray} {p : Option ByteArray}, rOk p l = true → s ∈ l → idOk s = true
 | [], _, _, h => by cases h
 | g :: l, p, h, hm => by
  simp only [rOk, Bool.and_eq_true] at h
  rcases List.mem_cons.1 hm with rfl | hm
  ·exact h.1
  ·exact rOk_mem h.2.2 hm
structure GoodRc (r : Rc) : Prop where
 id : idOk r.id = true
 cats : 0 ≤ r.cats ∧ r.cats < 256
 nf : r.fields.length ≤ 6
 nr : r.refs.length ≤ 4
 fs : fOk none r.fields = true
 rs : rOk none r.refs = true
theorem chkRec_good (r : Rc) : chkRec r = 0 ↔ GoodRc r := by
 unfold chkRec
 constructor
 ·intro h
  split at h
  ·rename_i h1
   split at h
   ·rename_i h2
    split at h
    ·cases h
    ·rename_i h3
     split at h
     ·rename_i h4
      rw [Bool.and_eq_true] at h4
      exact ⟨h1, h2, by omega, by omega, h4.1, h4.2⟩
     ·cases h
   ·cases h
  ·cases h
 ·rintro ⟨h1, h2, h3, h4, h5, h6⟩
  rw [if_pos h1, if_pos h2, if_neg (by omega), h5, h6]
  rfl
theorem fdL_no {f : Fd} (h : idOk f.key = true ∧ valOk f.val = true) {c : UInt8} (hi : idB c = false) (hv : valB c = false) (hc : c ≠ 61) : c ∉ fdL f := by
 unfold fdL
 simp only [List.mem_append, List.mem_cons, not_or]
 exact ⟨id_no h.1 hi, hc, val_no h.2 hv⟩
theorem ofFd_fdL {f : Fd} (h : idOk f.key = true) : ofFd (fdL f) = some f := by
 unfold ofFd
 have hk := id_no h (c := 61) (by decide)
 rw [if_pos (by simp [fdL]), fdL, cut_hit hk]
 rfl
theorem ofFds_map : ∀ {l : List Fd}, (∀ f ∈ l, idOk f.key = true) → ofFds (l.map fdL) = some l
 | [], _ => rfl
 | f :: l, h => by
  rw [List.map_cons, ofFds, ofFd_fdL (h f (by simp)), ofFds_map fun g hg => h g (List.mem_cons_of_mem _ hg)]
  rfl
theorem itoa_no (n : Int) {c : UInt8} (h : ¬ (45 ≤ c.toNat ∧ c.toNat ≤ 57)) : c ∉ Lib.itoa n := fun hx => h (itoa_mem hx)
/-- A record is read aS it was written. -/
theorem raw_recL {r : Rc} (h : GoodRc r) : rawRc (recL r) = some r := by
 obtain ⟨id, cats, fields, refs⟩ := r
 obtain ⟨h1, h2, h3, h4, h5, h6⟩ := h
 have hf : ∀ f ∈ fields, idOk f.key = true ∧ valOk f.val = true := fun f hf => fOk_mem h5 hf
 have hr : ∀ s ∈ refs, idOk s = true := fun s hs => rOk_mem h6 hs
 have e1 : splitE 44 (joinC 44 (fields.map fdL)) = fields.map fdL := split_joinE fun x hx => by
  obtain ⟨f, hf', rfl⟩ := List.mem_map.1 hx
  exact ⟨fdL_no (hf f hf') (by decide) (by decide) (by decide), by simp [fdL]⟩
 have e2 : splitE 44 (joinC 44 (refs.map fun s => s.data.toList)) = refs.map fun s => s.data.toList := split_joinE fun x hx => by
  obtain ⟨s, hs, rfl⟩ := List.mem_map.1 hx
  exact ⟨id_no (hr s hs) (by decide), idOk_ne (hr s hs)⟩
 have n1 : (59 : UInt8) ∉ joinC 44 (fields.map fdL) := fun hx => by
  rcases joinC_mem hx with h | ⟨y, hy, h⟩
  ·cases h
  ·obtain ⟨f, hf', rfl⟩ := List.mem_map.1 hy
   exact fdL_no (hf f hf') (by decide) (by decide) (by decide) h
 have n2 : (59 : UInt8) ∉ joinC 44 (refs.map fun s => s.data.toList) := fun hx => by
  rcases joinC_mem hx with h | ⟨y, hy, h⟩
  ·cases h
  ·obtain ⟨s, hs, rfl⟩ := List.mem_map.1 hy
   exact id_no (hr s hs) (by decide) h
 unfold rawRc recL
 rw [splitC_hit (id_no h1 (by decide)), splitC_hit (itoa_no _ (by decide)), splitC_hit n1, splitC_none n2]
 simp only [numOk_of (show -(10 ^ 8) < cats ∧ cats < 10 ^ 9 by simp only at h2; omega), e1, e2, ofFds_map fun f hf' => (hf f hf').1, List.map_map]
 refine congrArg some ?_
 congr 1
 exact (List.map_congr_left (g := fun s => s) fun s _ => bs_eta s).trans (List.map_id' _)
theorem ofFd_back {w : List UInt8} {f : Fd} (h : ofFd w = some f) : fdL f = w := by
 unfold ofFd at h
 rcases cut_cases 61 w with ⟨h1, _⟩ | ⟨a, b, rfl, h2, h3⟩
 ·rw [if_neg h1] at h; cases h
 ·rw [if_pos (by simp), h3] at h
  cases h
  rfl
theorem ofFds_back : ∀ {l : List (List UInt8)} {fs : List Fd}, ofFds l = some fs → fs.map fdL = l
 | [], fs, h => by cases h; rfl
 | w :: l, fs, h => by
  rw [ofFds] at h
  split at h
  ·cases h
  ·rename_i f e
   obtain ⟨r, hr, rfl⟩ := Option.map_eq_some_iff.1 h
   rw [List.map_cons, ofFd_back e, ofFds_back hr]
/-- A text is written aS it was read. -/
theorem recL_raw {l : List UInt8} {r : Rc} (h : rawRc l = some r) : recL r = l := by
 unfold rawRc at h
 split at h
 ·rename_i a b c d e
  split at h
  ·cases h
  ·rename_i n hn
   split at h
   ·cases h
   ·rename_i fs hf
    cases h
    have hj := join_split 59 l
    rw [e] at hj
    simp only [joinC] at hj
    unfold recL
    simp only [(numOk_itoa hn).1, ofFds_back hf, join_splitE, List.map_map]
    have e2 : ((splitE 44 d).map ((fun s : ByteArray => s.data.toList) ∘ bs)) = splitE 44 d := (List.map_congr_left (g := id) fun x _ => bs_list x).trans (List.map_id _)
    rw [e2, join_splitE]
    exact hj
 ·cases h
theorem readC_recL {r : Rc} (h : GoodRc r) : readC (recL r) = 0 ∧ readR (recL r) = r := by
 rw [readC, readR, raw_recL h]
 exact ⟨(chkRec_good r).2 h, if_pos ((chkRec_good r).2 h)⟩
theorem readC_zero {l : List UInt8} (h : readC l = 0) : rawRc l = some (readR l) ∧ GoodRc (readR l) ∧ recL (readR l) = l := by
 unfold readC at h
 unfold readR
 split at h
 ·cases h
 ·rename_i r e
  simp only [e, if_pos h]
  exact ⟨trivial, (chkRec_good r).1 h, recL_raw e⟩
end Go.Proofs.YtonolfpnidaflaaGreatDoor.E

namespace Go.Proofs.YtonolfpnidaflaaGreatDoor.E
open Go
set_option linter.unusedSimpArgs false
set_option linter.unusedVariables false
set_option linter.unusedSectionVars false
set_option maxRecDepth 20000
def catOk (c : Int) : Bool := decide (0 ≤ c ∧ c < 256)
def chkOp (o : OpS) : Int :=
 if o.kind = 1 then chkRs o.rs else if o.kind = 2 then (if whoOk o.who then chkRec o.rcd else 1) else if o.kind = 3 then (if whoOk o.who && catOk o.rcd.cats then (if idOk o.id then 0 else 3) else 1) else 3
def numsL (l : List Int) : List UInt8 := l.flatMap fun n => 32 :: Lib.itoa n
def yn (b : Bool) : List UInt8 := if b then [121, 101, 115] else [110, 111]
def ruleL (r : Rl) : List UInt8 := numsL [r.role, r.why, r.fr, r.to, r.cats] ++ 32 :: yn r.allow
def plainL (o : OpS) : List UInt8 :=
 if o.kind = 2 then [112, 117, 116] ++ numsL [o.who.role, o.who.why, o.who.time] ++ 32 :: wrL o.rcd
 else if o.kind = 3 then [99, 117, 116] ++ numsL [o.who.role, o.who.why, o.who.time] ++ 32 :: (o.id.data.toList ++ numsL [o.rcd.cats])
 else [114, 117, 108, 101, 115] ++ o.rs.flatMap ruleL
def sumFrom : Nat → Nat → List UInt8 → Nat
 | _, n, [] => n
 | i, n, b :: l => sumFrom (i + 1) ((n + (i + 1) * b.toNat) % 65521) l
def sumL (l : List UInt8) : Nat := sumFrom 0 0 l
def lineL (o : OpS) : List UInt8 := plainL o ++ 32 :: 61 :: (Lib.itoa (sumL (plainL o)) ++ [10])
def writeL (o : OpS) : List UInt8 := if chkOp o = 0 then lineL o else []

/-! ### Words -/
structure Ws where
 l : List (List UInt8)
 bad : Bool
def nxt (w : Ws) : List UInt8 × Ws := match w.l with
 | [] => ([], ⟨[], true⟩)
 | s :: l => (s, ⟨l, w.bad⟩)
end Go.Proofs.YtonolfpnidaflaaGreatDoor.E

namespace Go.Proofs.YtonolfpnidaflaaGreatDoor.E
open Go
set_option linter.unusedSimpArgs false
set_option linter.unusedVariables false
set_option linter.unusedSectionVars false
set_option maxRecDepth 20000
theorem gc_cell {w : World} {b : Nat} {cs : Array Value} (h : GC w b = some cs) (j : Nat) : w.cell? ⟨b, j, none⟩ = cs[j]? := by
 unfold GC at h
 unfold World.cell?
 split at h
 ·rename_i e
  cases h
  simp [e]
 ·cases h
theorem gc_var {P : Program} {w : World} {n : String} {g : Nat} {cs : Array Value} (hg : P.globalNamed n = some g) (h : GC w g = some cs) : w.var? P n = some cs := by
 unfold World.var?
 rw [hg]
 exact h
theorem gl_parts {w : World} {T : Nat → Prop} (h : Gl w T) : Lib.TabIs Tryz.prog w "internal/strconv.uint64pow10" .u64 Lib.pow10Tab ∧ (∃ tp p, w.var? Tryz.prog "strconv.ErrSyntax" = some #[.iface tp p]) ∧
  (∃ tp p, w.var? Tryz.prog "strconv.ErrRange" = some #[.iface tp p]) ∧ ∃ m, w.cell? ⟨0, 0, none⟩ = some (.int .i64 m) := by
 have h2 := h.2
 unfold GP GB at h2
 obtain ⟨a, ⟨tp, p, b⟩, ⟨tq, q, c⟩, cs, m, d, d2⟩ := h2
 have e : ∀ {g : Nat} {cs : Array Value}, g ∈ [0, 1, 2, 3] → (fun b => if b ∈ [0, 1, 2, 3] then GC w b else none) g = some cs → GC w g = some cs := fun hm he => by
  rw [← he]
  exact (if_pos hm).symm
 refine ⟨gc_var (by kernel_rfl) (e (by decide) a), ⟨tp, p, gc_var (by kernel_rfl) (e (by decide) b)⟩, ⟨tq, q, gc_var (by kernel_rfl) (e (by decide) c)⟩, m, ?_⟩
 rw [gc_cell (e (by decide) d)]
 exact d2
theorem Itoa_ok (n : Int) (h : -9223372036854775808 ≤ n ∧ n ≤ 9223372036854775807) : Ok Tryz.prog 47 [I n] (S (bs (Lib.itoa n))) := by
 intro w T vs hT hG hv
 simp only [RVL, RV] at hv
 obtain ⟨_, _, rfl, ⟨rfl, _⟩, rfl⟩ := hv
 refine (Go.Proofs.Tryz.strconv_Itoa n h.1 h.2 w (gl_parts hG).1).mono ?_
 rintro e w' ⟨rfl, k, os, rfl⟩
 exact ⟨_, rfl, Lib.below_grow _ _ (Nat.le_refl _) _ _, by simp only [RV]; exact ⟨rfl, rfl⟩⟩
/-- What is told behind the number: nothing, or something. -/
def errA (l : List UInt8) : AV := match Lib.atoiAll l with
 | .ok _ => .val .nilIface
 | _ => .iface 196 (.rop [])
theorem Atoi_ok (s : ByteArray) (hs : s.size ≤ 281474976710656) : Ok Tryz.prog 60 [S s] (.tup [I (numA s.data.toList), errA s.data.toList]) := by
 intro w T vs hT hG hv
 simp only [RVL, RV] at hv
 obtain ⟨_, _, rfl, ⟨rfl, _⟩, rfl⟩ := hv
 obtain ⟨_, ⟨tp, p, h1⟩, ⟨tq, q, h2⟩, _⟩ := gl_parts hG
 unfold numA errA
 cases e : Lib.atoiAll s.data.toList with
 | ok v =>
  refine (Go.Proofs.Tryz.strconv_Atoi_ok s (by omega) v e w).mono ?_
  rintro e w' ⟨rfl, hw⟩
  refine ⟨_, rfl, ?_, by simp only [RV, RVL]; exact ⟨[_, _], rfl, _, _, rfl, ⟨rfl, rfl⟩, _, _, rfl, ⟨rfl, rfl⟩, rfl⟩⟩
  rcases hw with rfl | ⟨t, rfl⟩
  ·exact Go.RowKit.Below.refl _ _
  ·exact Lib.bytesWorld_below _ _ _
 | range =>
  refine (Go.Proofs.Tryz.strconv_Atoi_range_var s hs e tq q w h2).mono ?_
  rintro e w' ⟨N, rfl, hN, _, hB⟩
  exact ⟨_, rfl, hB, by simp only [RV, RVL, RVAt]; exact ⟨[_, _], rfl, _, _, rfl, ⟨rfl, rfl⟩, _, _, rfl, ⟨_, rfl, N, 0, rfl, .inl trivial, trivial⟩, rfl⟩⟩
 | _ =>
  refine (show Calls Tryz.prog 60 _ w _ from Go.Proofs.Any.strconv_Atoi_syntax_var Go.Proofs.Tryz.laysC172 s hs e tp p w h1).mono ?_
  rintro e w' ⟨N, rfl, hN, _, hB⟩
  exact ⟨_, rfl, hB, by simp only [RV, RVL, RVAt]; exact ⟨[_, _], rfl, _, _, rfl, ⟨rfl, rfl⟩, _, _, rfl, ⟨_, rfl, N, 0, rfl, .inl trivial, trivial⟩, rfl⟩⟩
theorem rows_strs {w : World} {T : Nat → Prop} {b : Nat} (l : List ByteArray) (h : ∀ (i : Nat) s, l[i]? = some s → w.cell? ⟨b, i, none⟩ = some (.string s)) : RVRows w T 1 (l.map fun s => [S s]) b 0 := by
 refine RVRows.of_flat (fun r hr => by obtain ⟨s, _, rfl⟩ := List.mem_map.1 hr; rfl) ?_
 have e : (l.map fun s => [S s]).flatten = l.map fun s => S s := by
  clear h
  induction l with
  | nil => rfl
  | cons x l ih => simp only [List.map_cons, List.flatten_cons, ih]; rfl
 have e2 : RVL w T (l.map fun s => S s) (l.map Value.string) := by
  clear h e
  induction l with
  | nil => simp [RVL]
  | cons x l ih =>
   simp only [List.map_cons, RVL, RV]
   exact ⟨_, _, rfl, ⟨rfl, rfl⟩, ih⟩
 rw [e]
 refine RVAt.of_vals e2 (fun u hu => by obtain ⟨s, _, rfl⟩ := List.mem_map.1 hu; rfl) fun i u hu => ?_
 rw [Nat.zero_add]
 rw [List.getElem?_map, Option.map_eq_some_iff] at hu
 obtain ⟨s, hs, rfl⟩ := hu
 exact h i s hs
theorem cells_strs {w : World} {T : Nat → Prop} {b o : Nat} : ∀ {l : List ByteArray}, RVRows w T 1 (l.map fun s => [S s]) b o → ∀ (i : Nat) s, l[i]? = some s → w.cell? ⟨b, o + i, none⟩ = some (.string s)
 | [], _, i, s, hs => by simp at hs
 | x :: l, h, i, s, hs => by
  simp only [List.map_cons, RVRows, RVAt, RV] at h
  obtain ⟨_, ⟨⟨u, h1, _, rfl, _⟩, _⟩, h2⟩ := h
  cases i with
  | zero => simp at hs; subst hs; exact h1
  | succ i =>
   have := cells_strs h2 i s (by simpa using hs)
   rw [← this]
   congr 2
   omega
theorem Split_ok (s : ByteArray) (c : UInt8) (hs : s.size < 4294967281) : Ok Tryz.prog 54 [S s, S ⟨#[c]⟩] (.list 1 (((splitC c s.data.toList).map bs).map fun s => [S s])) := by
 intro w T vs hT hG hv
 simp only [RVL, RV] at hv
 obtain ⟨_, _, rfl, ⟨rfl, _⟩, _, _, rfl, ⟨rfl, _⟩, rfl⟩ := hv
 obtain ⟨_, _, _, m, hm⟩ := gl_parts hG
 refine (Go.Proofs.Tryz.strings_Split s ⟨#[c]⟩ m w hs hm (Nat.le_refl _)).mono ?_
 rintro e w' ⟨rfl, rfl⟩
 have hl : (Lib.splitB ⟨#[c]⟩ 0 (Lib.countB s ⟨#[c]⟩) s).length = Lib.countB s ⟨#[c]⟩ + 1 := Lib.splitB_all _ (Nat.le_refl _) 0 _ s rfl
 rw [splitB_one] at hl ⊢
 generalize (splitC c s.data.toList).map bs = L at *
 refine ⟨_, rfl, Joins.below_alloc1 _ _, ?_⟩
 simp only [RV]
 refine ⟨_, _, by rw [← hl, List.length_map], by rw [List.length_map, hl]; exact Nat.le_refl _, fun q => (by cases q), .inr ⟨w.heap.size, 0, rfl, .inr ⟨Nat.le_refl _, by simp⟩, rows_strs L fun i s h => ?_⟩⟩
 have hb := heap_new w (.cells (L.map Value.string).toArray 9)
 simp only [World.cell?, hb]
 simp [h]
theorem sCut_ok (s : ByteArray) (c : UInt8) (hs : s.size < 4294967281) : Ok Tryz.prog 61 [S s, S ⟨#[c]⟩] (.tup [S (bs (Lib.cut s.data.toList [c]).1), S (bs (Lib.cut s.data.toList [c]).2.1), B (Lib.cut s.data.toList [c]).2.2]) := by
 intro w T vs hT hG hv
 simp only [RVL, RV] at hv
 obtain ⟨_, _, rfl, ⟨rfl, _⟩, _, _, rfl, ⟨rfl, _⟩, rfl⟩ := hv
 obtain ⟨_, _, _, m, hm⟩ := gl_parts hG
 refine (Go.Proofs.Tryz.strings_Cut s ⟨#[c]⟩ m w hs hm).mono ?_
 rintro e w' ⟨rfl, n, rfl⟩
 exact ⟨_, rfl, below_drewN (Go.RowKit.Below.refl _ _) n, by simp only [RV, RVL]; exact ⟨[_, _, _], rfl, _, _, rfl, ⟨rfl, rfl⟩, _, _, rfl, ⟨rfl, rfl⟩, _, _, rfl, ⟨rfl, rfl⟩, rfl⟩⟩
theorem sJoin_ok (l : List ByteArray) (c : UInt8) (h1 : l.length ≤ 1000000) (h2 : (joinC c (l.map (·.data.toList))).length ≤ 140737488355328) : Ok Tryz.prog 23 [.list 1 (l.map fun s => [S s]), S ⟨#[c]⟩] (S (bs (joinC c (l.map (·.data.toList))))) := by
 intro w T vs hT hG hv
 simp only [RVL, RV] at hv
 obtain ⟨_, _, rfl, ⟨a, cap, rfl, hc, hn, hr⟩, _, _, rfl, ⟨rfl, _⟩, rfl⟩ := hv
 rw [List.length_map] at hc ⊢
 cases l with
 | nil =>
  refine (Go.Proofs.Tryz.strings_Join_none a cap ⟨#[c]⟩ w).mono ?_
  rintro e w' ⟨rfl, rfl⟩
  exact ⟨_, rfl, Go.RowKit.Below.refl _ _, by simp only [RV]; exact ⟨by trivial, rfl⟩⟩
 | cons x l =>
  rcases hr with hr | ⟨b, off, rfl, hb, hr⟩
  ·cases hr
  ·refine (Go.Proofs.Tryz.strings_Join b off cap (x :: l) ⟨#[c]⟩ w (fun j y hy => cells_strs hr j y hy) (hT b hb) (by omega) hc (by rw [join_one]; exact h2)).mono ?_
   rintro e w' ⟨rfl, hB⟩
   exact ⟨_, rfl, hB, by simp only [RV]; exact ⟨by rw [join_one]; rfl, rfl⟩⟩
theorem HasPrefix_ok (s t : ByteArray) : Ok Tryz.prog 22 [S s, S t] (B (Lib.hasPrefix s.data.toList t.data.toList)) := by
 intro w T vs hT hG hv
 simp only [RVL, RV] at hv
 obtain ⟨_, _, rfl, ⟨rfl, _⟩, _, _, rfl, ⟨rfl, _⟩, rfl⟩ := hv
 refine (Go.Proofs.Tryz.strings_HasPrefix s t w).mono ?_
 rintro e w' ⟨rfl, rfl⟩
 exact ⟨_, rfl, Go.RowKit.Below.refl _ _, by simp only [RV]; exact ⟨by trivial, rfl⟩⟩
end Go.Proofs.YtonolfpnidaflaaGreatDoor.E

namespace Go.Proofs.YtonolfpnidaflaaGreatDoor.E
open Go
set_option linter.unusedSimpArgs false
set_option linter.unusedVariables false
set_option linter.unusedSectionVars false
set_option maxRecDepth 20000
set_option maxHeartbeats 1000000
theorem fdL_eq (f : Fd) : f.key ++ ⟨#[61]⟩ ++ f.val = bs (fdL f) := ba_ext (by rw [ba_app, ba_app]; simp [fdL, bs])
theorem ba_size (a b : ByteArray) : (a ++ b).size = a.size + b.size := ByteArray.size_append
theorem joinC_len {c : UInt8} {k : Nat} : ∀ {l : List (List UInt8)}, (∀ x ∈ l, x.length ≤ k) → (joinC c l).length ≤ l.length * (k + 1)
 | [], _ => by simp [joinC]
 | [x], h => by have := h x (by simp); simp [joinC]; omega
 | x :: y :: r, h => by
  have h1 := h x (by simp)
  have h2 := joinC_len (c := c) (l := y :: r) fun z hz => h z (List.mem_cons_of_mem _ hz)
  simp only [joinC, List.length_append, List.length_cons] at *
  rw [Nat.add_mul (r.length + 1)]
  omega
theorem id_size {s : ByteArray} (h : idOk s = true) : s.size ≤ 8 := by
 simp only [idOk, Bool.and_eq_true, decide_eq_true_eq] at h
 exact h.1.2
theorem val_size {s : ByteArray} (h : valOk s = true) : s.size ≤ 12 := by
 simp only [valOk, Bool.and_eq_true, decide_eq_true_eq] at h
 exact h.1
theorem recL_lens {r : Rc} (h : GoodRc r) : r.id.size ≤ 8 ∧ (Lib.itoa r.cats).length ≤ 9 ∧ (joinC 44 (r.fields.map fdL)).length ≤ 132 ∧ (joinC 44 (r.refs.map fun s => s.data.toList)).length ≤ 36 := by
 refine ⟨id_size h.id, itoa_len (by have := h.cats; omega), ?_, ?_⟩
 ·have := joinC_len (c := 44) (k := 21) (l := r.fields.map fdL) fun x hx => by
   obtain ⟨f, hf, rfl⟩ := List.mem_map.1 hx
   have hfo := fOk_mem h.fs hf
   have h1 := id_size hfo.1
   have h2 := val_size hfo.2
   have q1 := size_eq f.key
   have q2 := size_eq f.val
   simp only [fdL, List.length_append, List.length_cons]
   omega
  have hn := h.nf
  rw [List.length_map] at this
  omega
 ·have := joinC_len (c := 44) (k := 8) (l := r.refs.map fun s => s.data.toList) fun x hx => by
   obtain ⟨s, hs, rfl⟩ := List.mem_map.1 hx
   have h1 := id_size (rOk_mem h.rs hs)
   rw [size_eq] at h1
   exact h1
  have hn := h.nr
  rw [List.length_map] at this
  omega
theorem wrL_len {r : Rc} (h : chkRec r = 0) : (wrL r).length ≤ 200 := by
 obtain ⟨z1, z2, z3, z4⟩ := recL_lens ((chkRec_good r).1 h)
 rw [wrL, if_pos h, recL]
 have := size_eq r.id
 simp only [List.length_append, List.length_cons]
 omega
theorem recSplit_ok (s : ByteArray) (hs : s.size < 4294967281) : Ok Tryz.prog 59 [S s] (.list 1 (((splitE 44 s.data.toList).map bs).map fun s => [S s])) := by
 refine Ok.of_wp (rs := [.tmp 2]) (n := 7) Tryz.func59 rfl rfl rfl (by simp) fo (by kernel_rfl) ?_
 by_cases h : s.size = 0
 ·have e : splitE 44 s.data.toList = [] := by rw [splitE, if_pos (List.eq_nil_of_length_eq_zero (by rw [← size_eq]; exact h))]
  rw [e]
  simp +decide -implicitDefEqProofs only [S0, simprocAttr, beq_empty, h]
 ·have e : splitE 44 s.data.toList = splitC 44 s.data.toList := by rw [splitE, if_neg (fun e => h (by rw [size_eq, e]; rfl))]
  rw [e]
  simp +decide -implicitDefEqProofs only [S0, simprocAttr, beq_empty, h]
  refine call_eq (Split_ok s 44 hs) ?_
  simp +decide -implicitDefEqProofs only [S0, simprocAttr]
theorem recWrite_ok (r : Rc) : Ok Tryz.prog 89 [recV r] (.tup [S (bs (wrL r)), I (chkRec r)]) := by
 refine Ok.of_wp (rs := [.tmp 2, .tmp 3]) (n := 46) Tryz.func89 rfl rfl rfl (by simp) fo (by kernel_rfl) ?_
 simp +decide -implicitDefEqProofs only [S0, simprocAttr]
 refine call_eq (recCheck_ok r) ?_
 unfold wrL
 by_cases hc : chkRec r = 0
 ·rw [if_pos hc]
  have hg := (chkRec_good r).1 hc
  simp +decide -implicitDefEqProofs only [S0, simprocAttr, hc]
  have hn := hg.nf
  refine ALoop.st [1, 5, 14, 15, 16] (fun (i : Nat) => [.ptr (.l 1) 1 0, .own (.l 28) 0 1 0 i, fds r.fields, I r.fields.length, I i]) (fun i => [(.l 1, 1, .cells 35 [S r.id, I r.cats, fds r.fields, strs r.refs]), (.l 28, 0, .row 9 1 none ((r.fields.take i).map fun f => [S (bs (fdL f))]))])
   (fun i => i ≤ r.fields.length) (fun i => r.fields.length - i) [.l 28] 0 (by simp +decide -implicitDefEqProofs only [S0, simprocAttr]; try omega) (by simp +decide -implicitDefEqProofs only [S0, simprocAttr]) (by omega) ?_
  intro i hi
  by_cases h : i < r.fields.length
  ·obtain ⟨f, hf⟩ := lt_get h
   have hi' : (i : Int) < r.fields.length := by omega
   have hfo := fOk_mem hg.fs (List.mem_of_getElem? hf)
   have z1 := id_size hfo.1
   have z2 := val_size hfo.2
   simp +decide -implicitDefEqProofs only [S0, simprocAttr, hi', hf, wr_add1 hi' (by omega), fdL_eq, ba_size]
   refine ⟨by simp only [show (⟨#[61]⟩ : ByteArray).size = 1 from rfl]; omega, by simp only [show (⟨#[61]⟩ : ByteArray).size = 1 from rfl]; omega, by rw [List.length_take]; omega, by omega, ?_⟩
   refine Nxt.mk [] (i + 1) (by simp +decide -implicitDefEqProofs only [S0, simprocAttr]) (by simp +decide -implicitDefEqProofs only [S0, simprocAttr]; simp [take_get hf, List.take_of_length_le, List.length_take, Nat.min_eq_left hi]) (by omega) (by omega)
  ·have hi' : ¬ (i : Int) < r.fields.length := by omega
   obtain rfl : i = r.fields.length := by omega
   obtain ⟨z1, z2, z3, z4⟩ := recL_lens hg
   have hcat := hg.cats
   have hnr := hg.nr
   have k1 : (⟨#[59]⟩ : ByteArray).size = 1 := rfl
   have tk : List.take r.fields.length r.fields = r.fields := List.take_of_length_le (Nat.le_refl _)
   rw [tk]
   simp +decide -implicitDefEqProofs only [S0, simprocAttr, hi', ba_size, k1, bs_size]
   refine ⟨by omega, ?_⟩
   refine call_eq (Itoa_ok r.cats (by omega)) ?_
   obtain ⟨F, hF⟩ : ∃ F, F = r.fields.map fun f => bs (fdL f) := ⟨_, rfl⟩
   have e1 : List.map (fun f => [S (bs (fdL f))]) r.fields = (F.map fun s => [S s]) := by rw [hF, List.map_map]; rfl
   have e2 : F.map (fun s : ByteArray => s.data.toList) = r.fields.map fdL := by rw [hF, List.map_map]; rfl
   have e3 : List.take r.fields.length (F.map fun s => [S s]) = F.map fun s => [S s] := List.take_of_length_le (by rw [List.length_map, hF, List.length_map]; exact Nat.le_refl _)
   have e4 : F.length = r.fields.length := by rw [hF, List.length_map]
   rw [e1]
   simp +decide -implicitDefEqProofs only [S0, simprocAttr, ba_size, k1, bs_size, e3, e4]
   refine ⟨by omega, by omega, ?_⟩
   refine call_eq (sJoin_ok F 44 (by omega) (by rw [e2]; omega)) ?_
   rw [e2]
   simp +decide -implicitDefEqProofs only [S0, simprocAttr, ba_size, k1, bs_size]
   refine ⟨by omega, by omega, ?_⟩
   refine call_eq (sJoin_ok r.refs 44 (by omega) (by omega)) ?_
   simp +decide -implicitDefEqProofs only [S0, simprocAttr, ba_size, k1, bs_size]
   refine ⟨by omega, ?_⟩
   exact S_eq (ba_ext (by simp [ba_app, recL, bs]))
 ·rw [if_neg hc]
  simp +decide -implicitDefEqProofs only [S0, simprocAttr, hc]
  rfl
theorem splitC_len {c : UInt8} : ∀ {l y : List UInt8}, y ∈ splitC c l → y.length ≤ l.length
 | [], y, h => by simp [splitC] at h; simp [h]
 | x :: l, y, h => by
  rw [splitC] at h
  have ih := @splitC_len c l
  split at h
  ·rcases List.mem_cons.1 h with rfl | h
   ·simp
   ·have := ih h; simp; omega
  ·split at h
   ·simp at h; subst h; simp
   ·rename_i y' r e
    rw [e] at ih
    rcases List.mem_cons.1 h with rfl | h
    ·have := ih (List.mem_cons_self ..); simpa using this
    ·have := ih (List.mem_cons_of_mem _ h); simp; omega
theorem splitC_num (c : UInt8) : ∀ l : List UInt8, (splitC c l).length ≤ l.length + 1
 | [] => by simp [splitC]
 | x :: l => by
  rw [splitC]
  have ih := splitC_num c l
  split
  ·simp; omega
  ·split
   ·simp
   ·rename_i e; rw [e] at ih; simp at ih ⊢; omega
theorem splitE_len {c : UInt8} {l y : List UInt8} (h : y ∈ splitE c l) : y.length ≤ l.length := by
 unfold splitE at h
 split at h
 ·cases h
 ·exact splitC_len h
theorem splitE_num (c : UInt8) (l : List UInt8) : (splitE c l).length ≤ l.length + 1 := by
 unfold splitE
 split
 ·simp
 ·exact splitC_num c l
theorem ofFds_snoc {w : List UInt8} {f : Fd} : ∀ {l : List (List UInt8)} {fs : List Fd}, ofFds l = some fs → ofFd w = some f → ofFds (l ++ [w]) = some (fs ++ [f])
 | [], fs, h, hw => by cases h; simp [ofFds, hw]
 | v :: l, fs, h, hw => by
  rw [ofFds] at h
  split at h
  ·cases h
  ·rename_i g e
   obtain ⟨r, hr, rfl⟩ := Option.map_eq_some_iff.1 h
   rw [List.cons_append, ofFds, e, ofFds_snoc hr hw]
   rfl
theorem ofFds_none {w : List UInt8} : ∀ {l : List (List UInt8)}, w ∈ l → ofFd w = none → ofFds l = none
 | v :: l, h, hw => by
  rw [ofFds]
  rcases List.mem_cons.1 h with rfl | h
  ·rw [hw]
  ·rw [ofFds_none h hw]
   split <;> rfl
theorem recRead_ok (s : ByteArray) (hs : s.size < 4294967281) : Ok Tryz.prog 19 [S s] (.tup [recV (readR s.data.toList), I (readC s.data.toList)]) := by
 refine Ok.of_wp (rs := [.cell 2 35, .tmp 3]) (n := 89) Tryz.func19 rfl rfl rfl (by simp) fo (by kernel_rfl) ?_
 simp +decide -implicitDefEqProofs only [S0, simprocAttr]
 refine call_eq (Split_ok s 59 hs) ?_
 unfold readR readC rawRc
 have hmem := fun y => @splitC_mem 59 s.data.toList y
 have hj := join_split 59 s.data.toList
 generalize splitC 59 s.data.toList = L at *
 match L with
 | [a, b, c, d] =>
  have hsz : a.length + b.length + c.length + d.length ≤ s.size := by
   rw [size_eq, ← hj]
   simp only [joinC, List.length_append, List.length_cons]
   omega
  simp +decide -implicitDefEqProofs only [S0, simprocAttr]
  refine call_eq (recSplit_ok (bs d) (by rw [bs_size]; omega)) ?_
  rw [bs_list]
  generalize hD : (splitE 44 d).map bs = D
  simp +decide -implicitDefEqProofs only [S0, simprocAttr]
  refine call_eq (Atoi_ok (bs b) (by rw [bs_size]; omega)) ?_
  rw [bs_list]
  unfold numA errA numOk
  cases hb : Lib.atoiAll b with
  | range => simp +decide -implicitDefEqProofs only [S0, simprocAttr]; exact ⟨rfl, rfl⟩
  | ok v =>
   have hv := Lib.atoiAll_bounds hb
   by_cases hb9 : (b.length : Int) > 9
   ·have hN : (if b.length ≤ 9 ∧ Lib.itoa v = b then some v else none) = none := if_neg (by omega)
    simp +decide -implicitDefEqProofs only [S0, simprocAttr, hb9, bs_size, hN]
    exact ⟨rfl, rfl⟩
   ·simp +decide -implicitDefEqProofs only [S0, simprocAttr, hb9, bs_size]
    refine call_eq (Itoa_ok v hv) ?_
    have hb8 : b.length ≤ 9 := by omega
    by_cases hbi : Lib.itoa v = b
    ·have hN : (if b.length ≤ 9 ∧ Lib.itoa v = b then some v else none) = some v := if_pos ⟨by omega, hbi⟩
     simp +decide -implicitDefEqProofs only [S0, simprocAttr, toList_beq, hbi]
     refine call_eq (recSplit_ok (bs c) (by rw [bs_size]; omega)) ?_
     rw [bs_list]
     have hWl := splitE_num 44 c
     have hWm := fun y => @splitE_len 44 c y
     generalize splitE 44 c = W at *
     simp +decide -implicitDefEqProofs only [S0, simprocAttr]
     refine ALoop.st [2, 4, 5, 58, 59, 60] (fun (q : List Fd) => [.ptr (.l 2) 1 0, .list 1 (List.map (fun s => [S s]) [bs a, bs b, bs c, bs d]), .ptr (.l 5) 1 0, .list 1 ((W.map bs).map fun s => [S s]), I W.length, I q.length])
      (fun q => [(.l 2, 1, .cells 35 [S ⟨#[]⟩, I 0, .val (.slice none 0 0), .val (.slice none 0 0)]), (.l 5, 1, .cells 35 [S (bs a), I v, .own (.l 79) 0 2 0 q.length, strs D]), (.l 79, 0, .row 37 2 none (q.map fdC))])
      (fun q => q.length ≤ W.length ∧ ofFds (W.take q.length) = some q) (fun q => W.length - q.length) [.l 79] [] (by simp +decide -implicitDefEqProofs only [S0, simprocAttr]; try omega) (by simp +decide -implicitDefEqProofs only [S0, simprocAttr]) ⟨by simp, by simp [ofFds]⟩ ?_
     rintro q ⟨hq, hof⟩
     by_cases h : q.length < W.length
     ·have hq' : (q.length : Int) < W.length := by omega
      obtain ⟨w, hw⟩ := lt_get h
      have hwl := hWm w (List.mem_of_getElem? hw)
      simp +decide -implicitDefEqProofs only [S0, simprocAttr, hq', hw, wr_add1 hq' (by omega), hN]
      refine call_eq (sCut_ok (bs w) 61 (by rw [bs_size]; omega)) ?_
      rw [bs_list]
      by_cases h61 : (61 : UInt8) ∈ w
      ·obtain ⟨a', b', hw', hn'⟩ := List.eq_append_cons_of_mem h61
       have hcut : Lib.cut w [61] = (a', b', true) := by rw [hw']; exact cut_hit hn'
       have hfd : ofFd w = some ⟨bs a', bs b'⟩ := by rw [ofFd, if_pos h61, hcut]
       have tk : List.take q.length (List.map fdC q) = List.map fdC q := List.take_of_length_le (by simp)
       rw [hcut]
       simp +decide -implicitDefEqProofs only [S0, simprocAttr, tk, wr_add1 hq' (by omega)]
       refine ⟨by omega, ?_⟩
       refine Nxt.mk [] (q ++ [⟨bs a', bs b'⟩]) (by simp +decide -implicitDefEqProofs only [S0, simprocAttr]) (by simp +decide -implicitDefEqProofs only [S0, simprocAttr]; simp) ⟨by simp; omega, ?_⟩ (by simp; omega)
       rw [List.length_append, List.length_singleton, take_get hw]
       exact ofFds_snoc hof hfd
      ·have hfs : ofFds W = none := ofFds_none (List.mem_of_getElem? hw) (by rw [ofFd, if_neg h61])
       rw [cut_none h61]
       simp +decide -implicitDefEqProofs only [S0, simprocAttr, hfs, hb8]
       exact ⟨rfl, rfl⟩
     ·have hq' : ¬ (q.length : Int) < W.length := by omega
      have hfs : ofFds W = some q := by rw [← hof, List.take_of_length_le (by omega)]
      have tk : List.take q.length (List.map fdC q) = List.map fdC q := List.take_of_length_le (by simp)
      simp +decide -implicitDefEqProofs only [S0, simprocAttr, hq', tk]
      refine call_eq (recCheck_ok ⟨bs a, v, q, D⟩) ?_
      by_cases hck : chkRec ⟨bs a, v, q, D⟩ = 0
      ·simp +decide -implicitDefEqProofs only [S0, simprocAttr, hck, hfs, hb8, tk]
      ·simp +decide -implicitDefEqProofs only [S0, simprocAttr, hck, hfs, hb8, tk]
       exact ⟨rfl, rfl⟩
    ·have hbi' : decide (bs (Lib.itoa v) = bs b) = false := decide_eq_false (fun e => hbi (bs_inj.1 e))
     have hN : (if b.length ≤ 9 ∧ Lib.itoa v = b then some v else none) = none := if_neg fun h => hbi h.2
     simp +decide -implicitDefEqProofs only [S0, simprocAttr, toList_beq, hbi', hN]
     exact ⟨rfl, rfl⟩
  | _ => simp +decide -implicitDefEqProofs only [S0, simprocAttr]; exact ⟨rfl, rfl⟩
 | [] => simp +decide -implicitDefEqProofs only [S0, simprocAttr]; exact ⟨rfl, rfl⟩
 | [_] => simp +decide -implicitDefEqProofs only [S0, simprocAttr]; exact ⟨rfl, rfl⟩
 | [_, _] => simp +decide -implicitDefEqProofs only [S0, simprocAttr]; exact ⟨rfl, rfl⟩
 | [_, _, _] => simp +decide -implicitDefEqProofs only [S0, simprocAttr]; exact ⟨rfl, rfl⟩
 | _ :: _ :: _ :: _ :: _ :: r => 
  simp +decide -implicitDefEqProofs only [S0, simprocAttr]
  rw [if_pos (by omega)]
  exact ⟨rfl, rfl⟩
end Go.Proofs.YtonolfpnidaflaaGreatDoor.E

namespace Go.Proofs.YtonolfpnidaflaaGreatDoor.E
open Go
set_option linter.unusedSimpArgs false
set_option linter.unusedVariables false
set_option linter.unusedSectionVars false
set_option maxRecDepth 20000
set_option maxHeartbeats 1000000
theorem chkOp_ok (o : OpS) : Ok Tryz.prog 45 [opV o] (I (chkOp o)) := by
 refine Ok.of_wp (rs := [.tmp 2]) (n := 36) Tryz.func45 rfl rfl rfl (by simp) fo (by kernel_rfl) ?_
 unfold chkOp
 by_cases h1 : o.kind = 1
 ·rw [if_pos h1]
  simp +decide -implicitDefEqProofs only [S0, simprocAttr, h1]
  refine call_eq (chkRules_ok o.rs) ?_
  simp +decide -implicitDefEqProofs only [S0, simprocAttr]
 ·rw [if_neg h1]
  by_cases h2 : o.kind = 2
  ·rw [if_pos h2]
   simp +decide -implicitDefEqProofs only [S0, simprocAttr, h1, h2]
   refine call_eq (Who_ok o.who) ?_
   cases hw : whoOk o.who with
   | true =>
    simp +decide -implicitDefEqProofs only [S0, simprocAttr]
    refine call_eq (recCheck_ok o.rcd) ?_
    simp +decide -implicitDefEqProofs only [S0, simprocAttr]
   | false => simp +decide -implicitDefEqProofs only [S0, simprocAttr]
  ·rw [if_neg h2]
   by_cases h3 : o.kind = 3
   ·rw [if_pos h3]
    simp +decide -implicitDefEqProofs only [S0, simprocAttr, h1, h2, h3]
    refine call_eq (Who_ok o.who) ?_
    cases hw : whoOk o.who with
    | true =>
     simp +decide -implicitDefEqProofs only [S0, simprocAttr]
     refine call_eq (Cats_ok o.rcd.cats) ?_
     rw [show (decide (0 ≤ o.rcd.cats ∧ o.rcd.cats < 256)) = catOk o.rcd.cats from rfl]
     cases hc : catOk o.rcd.cats with
     | true =>
      simp +decide -implicitDefEqProofs only [S0, simprocAttr]
      refine call_eq (Id_ok o.id) ?_
      cases hi : idOk o.id with
      | true => simp +decide -implicitDefEqProofs only [S0, simprocAttr]
      | false => simp +decide -implicitDefEqProofs only [S0, simprocAttr]
     | false => simp +decide -implicitDefEqProofs only [S0, simprocAttr]
    | false =>
     simp +decide -implicitDefEqProofs only [S0, simprocAttr]
     exact I_eq (by simp)
   ·rw [if_neg h3]
    simp +decide -implicitDefEqProofs only [S0, simprocAttr, h1, h2, h3]
theorem sumL_lt : ∀ (l : List UInt8) (i n : Nat), n < 65521 → sumFrom i n l < 65521
 | [], i, n, h => h
 | b :: l, i, n, h => by rw [sumFrom]; exact sumL_lt l _ _ (Nat.mod_lt _ (by omega))
theorem Sum_ok (s : ByteArray) (hs : s.size ≤ 281474976710656) : Ok Tryz.prog 48 [S s] (I (sumL s.data.toList : Nat)) := by
 refine Ok.of_wp (rs := [.tmp 2]) (n := 22) Tryz.func48 rfl rfl rfl (by simp) fo (by kernel_rfl) ?_
 simp +decide -implicitDefEqProofs only [S0, simprocAttr]
 have hl := size_eq s
 refine ALoop.st [0, 3, 6, 7] (fun (q : Nat × Nat) => [S s, I q.2, I s.size, I q.1]) (fun _ => []) (fun q => q.1 ≤ s.size ∧ q.2 < 65521 ∧ sumFrom q.1 q.2 (s.data.toList.drop q.1) = sumL s.data.toList) (fun q => s.size - q.1) [] (0, 0) (by simp +decide -implicitDefEqProofs only [S0, simprocAttr]) (by simp +decide -implicitDefEqProofs only [S0, simprocAttr]) ⟨by simp only; omega, by simp only; omega, rfl⟩ ?_
 rintro ⟨i, n⟩ ⟨hi, hn, hu⟩
 simp only at hi hn hu
 by_cases h : i < s.size
 ·obtain ⟨c, hc⟩ := get_lt (l := s.data.toList) (i := i) (by omega)
  have h' : (i : Int) < s.size := by omega
  have c8 := c.toNat_lt
  have hm : (i + 1) * c.toNat ≤ (i + 1) * 255 := Nat.mul_le_mul_left _ (by omega)
  have w1 := wr_add1 h' (by omega)
  have w2 : IntKind.i64.wrap (((i + 1 : Nat) : Int) * (c.toNat : Int)) = (((i + 1) * c.toNat : Nat) : Int) := by rw [wr_i64 (by rw [← Int.natCast_mul]; omega) (by rw [← Int.natCast_mul]; omega), Int.natCast_mul]
  have w3 : IntKind.i64.wrap ((n : Int) + (((i + 1) * c.toNat : Nat) : Int)) = ((n + (i + 1) * c.toNat : Nat) : Int) := by rw [wr_i64 (by omega) (by omega)]; omega
  have w4 : IntKind.i64.wrap ((c.toNat : Int)) = c.toNat := by rw [wr_i64 (by omega) (by omega)]
  rw [get_drop hc, sumFrom] at hu
  have w5 : (((n + (i + 1) * c.toNat : Nat) : Int)).tmod 65521 = (((n + (i + 1) * c.toNat) % 65521 : Nat) : Int) := by
   rw [Int.tmod_eq_emod_of_nonneg (by omega)]
   omega
  simp +decide -implicitDefEqProofs only [S0, simprocAttr, h', hc, w1, w2, w3, w4, w5]
  exact Nxt.mk [] (i + 1, (n + (i + 1) * c.toNat) % 65521) (by simp +decide -implicitDefEqProofs only [S0, simprocAttr]) (by simp +decide -implicitDefEqProofs only [S0, simprocAttr]) ⟨by simp only; omega, Nat.mod_lt _ (by omega), hu⟩ (by simp only; omega)
 ·have h' : ¬ (i : Int) < s.size := by omega
  rw [drop_all (by omega), sumFrom] at hu
  simp +decide -implicitDefEqProofs only [S0, simprocAttr, h']
  rw [hu]
theorem numsL_app (a b : List Int) : numsL (a ++ b) = numsL a ++ numsL b := by simp [numsL]
theorem numsL_len : ∀ {l : List Int}, (∀ n ∈ l, inI n) → (numsL l).length ≤ 22 * l.length
 | [], _ => by simp [numsL]
 | n :: l, h => by
  have h1 := Lib.itoa_length_le n (h n (by simp)).1 (h n (by simp)).2
  have h2 := numsL_len fun m hm => h m (List.mem_cons_of_mem n hm)
  simp only [numsL, List.flatMap_cons, List.length_append, List.length_cons] at h2 ⊢
  omega
theorem nums_ok (l : List Int) (hl : l.length ≤ 100) (hr : ∀ n ∈ l, inI n) : Ok Tryz.prog 88 [ints l] (S (bs (numsL l))) := by
 refine Ok.of_wp (rs := [.tmp 2]) (n := 19) Tryz.func88 rfl rfl rfl (by simp) fo (by kernel_rfl) ?_
 simp +decide -implicitDefEqProofs only [S0, simprocAttr]
 refine ALoop.st [3, 6, 7, 8] (fun (i : Nat) => [S (bs (numsL (l.take i))), ints l, I l.length, I i]) (fun _ => []) (fun i => i ≤ l.length) (fun i => l.length - i) [] 0 (by simp +decide -implicitDefEqProofs only [S0, simprocAttr]; try rfl) (by simp +decide -implicitDefEqProofs only [S0, simprocAttr]) (by omega) ?_
 intro i hi
 by_cases h : i < l.length
 ·have h' : (i : Int) < l.length := by omega
  obtain ⟨n, hn⟩ := get_lt (l := l) (i := i) h'
  have hn' := hr n (List.mem_of_getElem? hn)
  simp +decide -implicitDefEqProofs only [S0, simprocAttr, h', hn, wr_add1 h' (by omega)]
  refine call_eq (Itoa_ok n hn') ?_
  have z1 := Lib.itoa_length_le n hn'.1 hn'.2
  have z2 := numsL_len (l := l.take i) fun m hm => hr m (List.mem_of_mem_take hm)
  rw [List.length_take] at z2
  have z3 : (⟨#[32]⟩ : ByteArray).size = 1 := rfl
  have e1 : bs (numsL (l.take i)) ++ (⟨#[32]⟩ ++ bs (Lib.itoa n)) = bs (numsL (l.take (i + 1))) := ba_ext (by rw [take_get hn, numsL_app]; simp [ba_app, bs, numsL])
  simp +decide -implicitDefEqProofs only [S0, simprocAttr, ba_size, bs_size, z3, e1, wr_add1 h' (by omega)]
  exact ⟨by omega, by omega, Nxt.mk [] (i + 1) (by simp +decide -implicitDefEqProofs only [S0, simprocAttr, wr_add1 h' (by omega)]) (by simp +decide -implicitDefEqProofs only [S0, simprocAttr]) (by omega) (by omega)⟩
 ·have h' : ¬ (i : Int) < l.length := by omega
  simp +decide -implicitDefEqProofs only [S0, simprocAttr, h']
  rw [List.take_of_length_le (by omega)]
theorem whoOk_I {w : Wh} (h : whoOk w = true) : whoI w := by
 have := of_decide_eq_true h
 exact ⟨⟨by omega, by omega⟩, ⟨by omega, by omega⟩, ⟨by omega, by omega⟩⟩
/-- What is so of a rule that may be. -/
structure GoodRl (r : Rl) : Prop where
 role : -1 ≤ r.role ∧ r.role < 8
 why : -1 ≤ r.why ∧ r.why < 4
 fr : 0 ≤ r.fr ∧ r.fr < r.to ∧ r.to ≤ 1000
 cats : 0 ≤ r.cats ∧ r.cats < 256
theorem goodRl_of {r : Rl} (h : oneE r = 0) : GoodRl r := by
 unfold oneE at h
 split at h
 ·rename_i h1
  have h2 := of_decide_eq_true h1
  split at h
  ·exact ⟨by omega, by omega, by omega, by omega⟩
  ·cases h
 ·cases h
theorem chkR_good : ∀ {l : List Rl}, chkR l = 0 → ∀ r ∈ l, GoodRl r
 | [], _, r, hr => by cases hr
 | x :: l, h, r, hr => by
  rw [chkR] at h
  split at h
  ·rename_i h1
   rcases List.mem_cons.1 hr with rfl | hr
   ·exact goodRl_of h1
   ·exact chkR_good h r hr
  ·rename_i h1; exact absurd h h1
theorem chkRs_good {l : List Rl} (h : chkRs l = 0) : l.length ≤ 20 ∧ ∀ r ∈ l, GoodRl r := by
 unfold chkRs at h
 split at h
 ·cases h
 ·exact ⟨by omega, chkR_good h⟩
/-- What is so of an operation that may be. -/
theorem chkOp_cases {o : OpS} (h : chkOp o = 0) : (o.kind = 1 ∧ chkRs o.rs = 0) ∨ (o.kind = 2 ∧ whoOk o.who = true ∧ chkRec o.rcd = 0) ∨ (o.kind = 3 ∧ whoOk o.who = true ∧ (0 ≤ o.rcd.cats ∧ o.rcd.cats < 256) ∧ idOk o.id = true) := by
 unfold chkOp at h
 split at h
 ·rename_i h1; exact .inl ⟨h1, h⟩
 ·split at h
  ·rename_i h2
   split at h
   ·rename_i h3; exact .inr (.inl ⟨h2, h3, h⟩)
   ·cases h
  ·split at h
   ·rename_i h3
    split at h
    ·rename_i h4
     rw [Bool.and_eq_true] at h4
     split at h
     ·rename_i h5; exact .inr (.inr ⟨h3, h4.1, of_decide_eq_true h4.2, h5⟩)
     ·cases h
    ·cases h
   ·cases h
theorem ruleL_len {r : Rl} (h : GoodRl r) : (ruleL r).length ≤ 54 := by
 have hn : ∀ {n : Int}, -1 ≤ n → n ≤ 1000 → (Lib.itoa n).length ≤ 9 := fun a b => itoa_len ⟨by omega, by omega⟩
 have h1 := hn h.role.1 (by have := h.role; omega)
 have h2 := hn h.why.1 (by have := h.why; omega)
 have h3 := hn (n := r.fr) (by have := h.fr; omega) (by have := h.fr; omega)
 have h4 := hn (n := r.to) (by have := h.fr; omega) (by have := h.fr; omega)
 have h5 := hn (n := r.cats) (by have := h.cats; omega) (by have := h.cats; omega)
 have h6 : (yn r.allow).length ≤ 3 := by cases r.allow <;> decide
 simp only [ruleL, numsL, List.flatMap_cons, List.flatMap_nil, List.length_append, List.length_cons, List.length_nil]
 omega
theorem rulesL_len : ∀ {l : List Rl}, (∀ r ∈ l, GoodRl r) → (l.flatMap ruleL).length ≤ 54 * l.length
 | [], _ => by simp
 | r :: l, h => by
  have h1 := ruleL_len (h r (by simp))
  have h2 := rulesL_len fun x hx => h x (List.mem_cons_of_mem r hx)
  simp only [List.flatMap_cons, List.length_append, List.length_cons]
  omega
theorem good_nums {r : Rl} (h : GoodRl r) : ∀ n ∈ [r.role, r.why, r.fr, r.to, r.cats], inI n := by
 obtain ⟨h1, h2, h3, h4⟩ := h
 intro n hn
 simp only [List.mem_cons, List.not_mem_nil, or_false] at hn
 rcases hn with rfl | rfl | rfl | rfl | rfl <;> exact ⟨by omega, by omega⟩
theorem who_nums {w : Wh} (h : whoI w) : ∀ n ∈ [w.role, w.why, w.time], inI n := by
 obtain ⟨h1, h2, h3⟩ := h
 intro n hn
 simp only [List.mem_cons, List.not_mem_nil, or_false] at hn
 rcases hn with rfl | rfl | rfl <;> assumption
theorem plain_ok (o : OpS) (h : chkOp o = 0) (hw : whoI o.who) : Ok Tryz.prog 46 [opV o] (S (bs (plainL o))) := by
 refine Ok.of_wp (rs := [.tmp 2]) (n := 78) Tryz.func46 rfl rfl rfl (by simp) fo (by kernel_rfl) ?_
 have hwn := who_nums hw
 have hwl := numsL_len hwn
 simp only [List.length_cons, List.length_nil] at hwl
 simp +decide -implicitDefEqProofs only [S0, simprocAttr]
 refine call_eq (nums_ok [o.who.role, o.who.why, o.who.time] (by simp) hwn) ?_
 rcases chkOp_cases h with ⟨h1, h2⟩ | ⟨h1, h2, h3⟩ | ⟨h1, h2, h3, h4⟩
 ·have h20 : ¬ o.kind = 2 := by omega
  have h30 : ¬ o.kind = 3 := by omega
  rw [plainL, if_neg h20, if_neg h30]
  obtain ⟨hl, hg⟩ := chkRs_good h2
  simp +decide -implicitDefEqProofs only [S0, simprocAttr, h20, h30]
  refine ALoop.st [6, 50, 51, 52] (fun (i : Nat) => [S (bs ([114, 117, 108, 101, 115] ++ (o.rs.take i).flatMap ruleL)), rules o.rs, I o.rs.length, I i]) (fun _ => []) (fun i => i ≤ o.rs.length) (fun i => o.rs.length - i) [] 0 (by simp +decide -implicitDefEqProofs only [S0, simprocAttr]; try rfl) (by simp +decide -implicitDefEqProofs only [S0, simprocAttr]) (by omega) ?_
  intro i hi
  by_cases hlt : i < o.rs.length
  ·have h' : (i : Int) < o.rs.length := by omega
   obtain ⟨r, hr⟩ := lt_get hlt
   have hgr := hg r (List.mem_of_getElem? hr)
   simp +decide -implicitDefEqProofs only [S0, simprocAttr, h', hr, wr_add1 h' (by omega)]
   refine call_eq (nums_ok [r.role, r.why, r.fr, r.to, r.cats] (by simp) (good_nums hgr)) ?_
   have hnl := numsL_len (good_nums hgr)
   have hrl := rulesL_len (l := o.rs.take i) fun x hx => hg x (List.mem_of_mem_take hx)
   rw [List.length_take] at hrl
   simp only [List.length_cons, List.length_nil] at hnl
   have k1 : (⟨#[32, 121, 101, 115]⟩ : ByteArray).size = 4 := rfl
   have k2 : (⟨#[32, 110, 111]⟩ : ByteArray).size = 3 := rfl
   have k3 : (114 :: 117 :: 108 :: 101 :: 115 :: List.flatMap ruleL (List.take i o.rs)).length = 5 + (List.flatMap ruleL (List.take i o.rs)).length := by simp; omega
   cases ha : r.allow with
   | true =>
    have e1 : bs (114 :: 117 :: 108 :: 101 :: 115 :: List.flatMap ruleL (List.take i o.rs)) ++ bs (numsL [r.role, r.why, r.fr, r.to, r.cats]) ++ ⟨#[32, 121, 101, 115]⟩ = bs (114 :: 117 :: 108 :: 101 :: 115 :: List.flatMap ruleL (List.take (i + 1) o.rs)) := ba_ext (by rw [take_get hr]; simp [ba_app, bs, ruleL, ha, yn])
    simp +decide -implicitDefEqProofs only [S0, simprocAttr, ba_size, bs_size, k1, k3, e1]
    exact ⟨by omega, by omega, Nxt.mk [] (i + 1) (by simp +decide -implicitDefEqProofs only [S0, simprocAttr, wr_add1 h' (by omega)]) (by simp +decide -implicitDefEqProofs only [S0, simprocAttr]) (by omega) (by omega)⟩
   | false =>
    have e1 : bs (114 :: 117 :: 108 :: 101 :: 115 :: List.flatMap ruleL (List.take i o.rs)) ++ bs (numsL [r.role, r.why, r.fr, r.to, r.cats]) ++ ⟨#[32, 110, 111]⟩ = bs (114 :: 117 :: 108 :: 101 :: 115 :: List.flatMap ruleL (List.take (i + 1) o.rs)) := ba_ext (by rw [take_get hr]; simp [ba_app, bs, ruleL, ha, yn])
    simp +decide -implicitDefEqProofs only [S0, simprocAttr, ba_size, bs_size, k2, k3, e1]
    exact ⟨by omega, by omega, Nxt.mk [] (i + 1) (by simp +decide -implicitDefEqProofs only [S0, simprocAttr, wr_add1 h' (by omega)]) (by simp +decide -implicitDefEqProofs only [S0, simprocAttr]) (by omega) (by omega)⟩
  ·have h' : ¬ (i : Int) < o.rs.length := by omega
   simp +decide -implicitDefEqProofs only [S0, simprocAttr, h']
   rw [List.take_of_length_le (by omega)]
 ·rw [plainL, if_pos h1]
  simp +decide -implicitDefEqProofs only [S0, simprocAttr, h1]
  refine call_eq (recWrite_ok o.rcd) ?_
  have k1 : (⟨#[112, 117, 116]⟩ : ByteArray).size = 3 := rfl
  have k2 : (⟨#[32]⟩ : ByteArray).size = 1 := rfl
  have hwr := wrL_len h3
  simp +decide -implicitDefEqProofs only [S0, simprocAttr, ba_size, bs_size, k1, k2]
  exact ⟨by omega, by omega, by omega, S_eq (ba_ext (by simp [ba_app, bs]))⟩
 ·have h20 : ¬ o.kind = 2 := by omega
  rw [plainL, if_neg h20, if_pos h1]
  have k1 : (⟨#[99, 117, 116]⟩ : ByteArray).size = 3 := rfl
  have k2 : (⟨#[32]⟩ : ByteArray).size = 1 := rfl
  have hid := id_size h4
  have hcn : ∀ n ∈ [o.rcd.cats], inI n := fun n hn => by simp at hn; subst hn; exact ⟨by omega, by omega⟩
  have hcl := numsL_len hcn
  simp only [List.length_cons, List.length_nil] at hcl
  simp +decide -implicitDefEqProofs only [S0, simprocAttr, h1, h20, ba_size, bs_size, k1, k2]
  refine ⟨by omega, by omega, by omega, ?_⟩
  refine call_eq (nums_ok [o.rcd.cats] (by simp) hcn) ?_
  simp +decide -implicitDefEqProofs only [S0, simprocAttr, ba_size, bs_size, k1, k2]
  exact ⟨by omega, S_eq (ba_ext (by simp [ba_app, bs]))⟩
theorem plainL_len {o : OpS} (h : chkOp o = 0) : (plainL o).length ≤ 1200 := by
 rcases chkOp_cases h with ⟨h1, h2⟩ | ⟨h1, h2, h3⟩ | ⟨h1, h2, h3, h4⟩
 ·obtain ⟨hl, hg⟩ := chkRs_good h2
  have := rulesL_len hg
  rw [plainL, if_neg (by omega), if_neg (by omega)]
  simp only [List.length_append, List.length_cons, List.length_nil]
  omega
 ·have h5 := numsL_len (who_nums (whoOk_I h2))
  have h6 := wrL_len h3
  rw [plainL, if_pos h1]
  simp only [List.length_append, List.length_cons, List.length_nil] at h5 ⊢
  omega
 ·have h5 := numsL_len (who_nums (whoOk_I h2))
  have h6 := id_size h4
  rw [size_eq] at h6
  have h7 := numsL_len (l := [o.rcd.cats]) fun n hn => by simp at hn; subst hn; exact ⟨by omega, by omega⟩
  rw [plainL, if_neg (by omega), if_pos h1]
  simp only [List.length_append, List.length_cons, List.length_nil] at h5 h7 ⊢
  omega
theorem sumI (l : List UInt8) : inI (sumL l : Nat) := by
 have := sumL_lt l 0 0 (by omega)
 unfold inI sumL
 omega
theorem logWrite_ok (o : OpS) (hw : whoI o.who) : Ok Tryz.prog 12 [opV o] (.tup [S (bs (writeL o)), I (chkOp o)]) := by
 refine Ok.of_wp (rs := [.tmp 2, .tmp 3]) (n := 20) Tryz.func12 rfl rfl rfl (by simp) fo (by kernel_rfl) ?_
 simp +decide -implicitDefEqProofs only [S0, simprocAttr]
 refine call_eq (chkOp_ok o) ?_
 unfold writeL
 by_cases hc : chkOp o = 0
 ·rw [if_pos hc]
  simp +decide -implicitDefEqProofs only [S0, simprocAttr, hc]
  refine call_eq (plain_ok o hc hw) ?_
  have hl := plainL_len hc
  have k1 : (⟨#[32, 61]⟩ : ByteArray).size = 2 := rfl
  have k2 : (⟨#[10]⟩ : ByteArray).size = 1 := rfl
  simp +decide -implicitDefEqProofs only [S0, simprocAttr, ba_size, bs_size, k1, k2]
  refine ⟨by omega, ?_⟩
  refine call_eq (Sum_ok (bs (plainL o)) (by rw [bs_size]; omega)) ?_
  rw [bs_list]
  simp +decide -implicitDefEqProofs only [S0, simprocAttr]
  refine call_eq (Itoa_ok _ (sumI (plainL o))) ?_
  have hl2 := Lib.itoa_length_le _ (sumI (plainL o)).1 (sumI (plainL o)).2
  simp +decide -implicitDefEqProofs only [S0, simprocAttr, ba_size, bs_size, k1, k2]
  exact ⟨by omega, by omega, S_eq (ba_ext (by simp [ba_app, bs, lineL]))⟩
 ·rw [if_neg hc]
  simp +decide -implicitDefEqProofs only [S0, simprocAttr, hc]
  rfl
end Go.Proofs.YtonolfpnidaflaaGreatDoor.E
