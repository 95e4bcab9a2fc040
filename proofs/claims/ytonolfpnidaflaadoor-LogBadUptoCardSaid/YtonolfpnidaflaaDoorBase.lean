/- Views of values; lists and their places. No conditions. -/
import Derived.Test.YtonolfpnidaflaaDoorBits
namespace Go.Proofs.YtonolfpnidaflaaDoor.E
open Go
set_option linter.unusedSimpArgs false
set_option linter.unusedVariables false
set_option linter.unusedSectionVars false
set_option maxRecDepth 20000
abbrev I (n : Int) : AV := .val (.int .i64 n)
abbrev B (b : Bool) : AV := .val (.bool b)
theorem I_eq {a b : Int} (h : a = b) : I a = I b := h ▸ rfl
theorem B_eq {a b : Bool} (h : a = b) : B a = B b := h ▸ rfl
abbrev ints (l : List Int) : AV := .list 1 (l.map fun n => [I n])
theorem get_lt {α : Type} {l : List α} {i : Nat} (h : (i : Int) < l.length) : ∃ x, l[i]? = some x := ⟨l[i]'(by omega), List.getElem?_eq_getElem (by omega)⟩
theorem get_drop {α : Type} {l : List α} {i : Nat} {x : α} (h : l[i]? = some x) : l.drop i = x :: l.drop (i + 1) := by
  obtain ⟨hi, rfl⟩ := List.getElem?_eq_some_iff.1 h
  exact List.drop_eq_getElem_cons hi
theorem drop_all {α : Type} {l : List α} {i : Nat} (h : ¬ (i : Int) < l.length) : l.drop i = [] := List.drop_eq_nil_of_le (by omega)
theorem take_get {α : Type} {l : List α} {i : Nat} {x : α} (h : l[i]? = some x) : l.take (i + 1) = l.take i ++ [x] := by
  rw [List.take_add_one, h]; rfl
theorem wr_add1 {i n : Nat} (h : (i : Int) < n) (k : n < 2 ^ 62) : IntKind.i64.wrap ((i : Int) + 1) = ((i + 1 : Nat) : Int) := by
  rw [wr_i64 (by omega) (by omega)]; omega
theorem i64_bits : IntKind.i64.bits = 64 := rfl
theorem pow_lt {k : Nat} (h : k < 62) : 2 ^ k < 2 ^ 62 := Nat.pow_lt_pow_right (by omega) h
theorem i64_nat {n : Nat} (h : n < 2 ^ 63) : IntKind.i64.wrap (n : Int) = n := wr_i64 (by omega) (by omega)
theorem shl1 {k : Nat} (h : k < 62) : IntKind.i64.wrap (1 * 2 ^ min k IntKind.i64.bits) = ((2 ^ k : Nat) : Int) := by
  rw [i64_bits, Nat.min_eq_left (by omega)]
  have := pow_lt h
  have e : (1 : Int) * 2 ^ k = ((2 ^ k : Nat) : Int) := by simp
  rw [e]
  exact i64_nat (by omega)
theorem shr_nat {o k : Nat} (h : k < 62) : (o : Int).fdiv (2 ^ min k IntKind.i64.bits) = ((o >>> k : Nat) : Int) := by
  rw [i64_bits, Nat.min_eq_left (by omega), Nat.shiftRight_eq_div_pow, Int.fdiv_eq_ediv_of_nonneg _ (Int.le_of_lt (Int.pow_pos (by omega)))]
  simp
theorem bit_eq {o k : Nat} (ho : o < 2 ^ 62) (h : k < 62) : (bits .and .i64 ((o : Int).fdiv (2 ^ min k IntKind.i64.bits)) 1 = 1) = (o.testBit k = true) := by
  rw [shr_nat h]
  have h2 : o >>> k ≤ o := by rw [Nat.shiftRight_eq_div_pow]; exact Nat.div_le_self _ _
  have := band_nat (n := o >>> k) (m := 1) (by omega) (by omega)
  show (band ((o >>> k : Nat) : Int) ((1 : Nat) : Int) = 1) = _
  rw [this, Nat.testBit, Nat.and_comm]
  apply propext
  simp only [bne_iff_ne, ne_eq, Nat.one_and_eq_mod_two]
  omega
theorem tk1 {α β : Type} (f : α → β) (l : List α) : List.take l.length (List.map f l) = List.map f l := List.take_of_length_le (by simp)
theorem tk2 {α β : Type} (f : α → β) (l : List α) (x : β) : List.take (l.length + 1) (List.map f l ++ [x]) = List.map f l ++ [x] := List.take_of_length_le (by simp)
theorem tk3 {α β : Type} (f : α → β) (l : List α) (x y : β) : List.take (l.length + 2) (List.map f l ++ [x, y]) = List.map f l ++ [x, y] := List.take_of_length_le (by simp)
end Go.Proofs.YtonolfpnidaflaaDoor.E
