/- Walks: the document's answers that the laws' stores are made with. No conditions. -/
import Derived.Test.YtljickachmdejaaStoreC
namespace Go.Proofs.Ytljickachmdejaa.E
open Go
set_option linter.unusedSimpArgs false
set_option linter.unusedVariables false
set_option linter.unusedSectionVars false
set_option maxRecDepth 20000
def idCut : ByteArray := ⟨#[97, 98, 99, 100, 101, 102, 103, 104, 105, 106, 107, 108, 109, 110, 111, 112, 113, 114, 115, 116, 117, 118, 119, 120, 121, 122, 48, 49, 50, 51, 52, 53, 54, 55, 56, 57]⟩
theorem idCut_mem (c : UInt8) : idCut.data.toList.contains c = idB c := by
  have : ∀ n : Fin 256, idCut.data.toList.contains (UInt8.ofNat n.1) = idB (UInt8.ofNat n.1) := by decide +kernel
  have h := this ⟨c.toNat, c.toNat_lt⟩
  simpa using h
theorem dropWhile_nil {α : Type} (p : α → Bool) (l : List α) : l.dropWhile p = [] ↔ l.all p = true := by
  induction l with
  | nil => simp
  | cons x l ih =>
    simp only [List.dropWhile_cons, List.all_cons, Bool.and_eq_true]
    split
    · rename_i h; simp [ih, h]
    · rename_i h; simp [h]
def lastR (id : ByteArray) (c : Int) : List Vn → Int
  | [] => -1
  | v :: l => if v.r.id = id ∧ v.r.cats = c then (if v.gone = true then -1 else (l.length : Nat)) else lastR id c l
theorem lastR_lives (l : List Vn) (id : ByteArray) (c : Int) : lastR id c l.reverse < 0 ↔ lives l id c = false := by
  unfold lives
  rw [← List.foldr_reverse]
  generalize l.reverse = m
  induction m with
  | nil => simp [lastR]
  | cons v m ih =>
    simp only [lastR, List.foldr_cons, lStep]
    by_cases h : v.r.id = id ∧ v.r.cats = c
    · rw [if_pos h, if_pos h]
      cases v.gone <;> simp
    · rw [if_neg h, if_neg h]; exact ih
abbrev verZ : List AV := [S ⟨#[]⟩, I 0, .val (.slice none 0 0), .val (.slice none 0 0), B false]
theorem sumlen_le {α : Type} (ls : List (List α)) (j : Nat) : (ls.take j).flatten.length ≤ ls.flatten.length := by
  induction ls generalizing j with
  | nil => simp
  | cons x ls ih => cases j with
    | zero => simp
    | succ j => simp; have := ih j; simp at this; omega
theorem flat_take {α : Type} {ls : List (List α)} {j : Nat} {x : List α} (h : ls[j]? = some x) : (ls.take (j + 1)).flatten = (ls.take j).flatten ++ x := by
  rw [take_get h]; simp
end Go.Proofs.Ytljickachmdejaa.E
