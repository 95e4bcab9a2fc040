/- Several texts in one: Bits Base Read ReadB Slices. No conditions. -/
import Derived.Test.YtonolfpnidaflaaGreatDoorEngineC
import Derived.ChangeArms
import Derived.ChangeShapes
import Derived.ChangeSlices
import Derived.WideShapes
import Derived.Carry
import Derived.ChangeOld
import Derived.WalkKit
import Derived.ProofKit
import Derived.OpenShut
import Derived.ShutString
import Derived.Below
import Derived.SizedLaws
import Derived.Test.YtonolfpnidaflaaGreatDoorTab
namespace Go.Proofs.YtonolfpnidaflaaGreatDoor.E
open Go
set_option linter.unusedSimpArgs false
set_option linter.unusedVariables false
set_option linter.unusedSectionVars false
set_option maxRecDepth 20000
abbrev bor (a b : Int) : Int := bits .or .i64 a b
abbrev band (a b : Int) : Int := bits .and .i64 a b
abbrev bnot (a b : Int) : Int := bits .andNot .i64 a b
theorem wrap_nat {n : Nat} (h : n < 9223372036854775808) : IntKind.i64.wrap (n : Int) = (n : Int) := wr_i64 (by omega) (by omega)
theorem bv_nat {n : Nat} (h : n < 9223372036854775808) : (BitVec.ofInt 64 (n : Int)).toNat = n := by
 rw [BitVec.toNat_ofInt]; omega
theorem bor_nat {n m : Nat} (h : n < 9223372036854775808) (k : m < 9223372036854775808) : bor n m = ((n ||| m : Nat) : Int) := by
 show IntKind.i64.wrap (((BitVec.ofInt 64 (n : Int)) ||| (BitVec.ofInt 64 (m : Int))).toNat : Int) = _
 rw [BitVec.toNat_or, bv_nat h, bv_nat k]
 exact wrap_nat (Nat.or_lt_two_pow (n := 63) h k)
theorem band_nat {n m : Nat} (h : n < 9223372036854775808) (k : m < 9223372036854775808) : band n m = ((n &&& m : Nat) : Int) := by
 show IntKind.i64.wrap (((BitVec.ofInt 64 (n : Int)) &&& (BitVec.ofInt 64 (m : Int))).toNat : Int) = _
 rw [BitVec.toNat_and, bv_nat h, bv_nat k]
 exact wrap_nat (Nat.lt_of_le_of_lt Nat.and_le_left h)
theorem bnot_nat {n m : Nat} (h : n < 9223372036854775808) (k : m < 9223372036854775808) : bnot n m = ((n ^^^ (n &&& m) : Nat) : Int) := by
 show IntKind.i64.wrap (((BitVec.ofInt 64 (n : Int)) &&& ~~~(BitVec.ofInt 64 (m : Int))).toNat : Int) = _
 have e : (((BitVec.ofInt 64 (n : Int)) &&& ~~~(BitVec.ofInt 64 (m : Int)))).toNat = n ^^^ (n &&& m) := by
  have : (((BitVec.ofInt 64 (n : Int)) &&& ~~~(BitVec.ofInt 64 (m : Int)))) = (BitVec.ofInt 64 (n : Int)) ^^^ ((BitVec.ofInt 64 (n : Int)) &&& (BitVec.ofInt 64 (m : Int))) := by
   ext i hi
   simp only [BitVec.getElem_and, BitVec.getElem_not, BitVec.getElem_xor]
   cases (BitVec.ofInt 64 (n : Int))[i] <;> cases (BitVec.ofInt 64 (m : Int))[i] <;> rfl
  rw [this, BitVec.toNat_xor, BitVec.toNat_and, bv_nat h, bv_nat k]
 rw [e]
 exact wrap_nat (Nat.xor_lt_two_pow (n := 63) h (Nat.lt_of_le_of_lt Nat.and_le_left h))
theorem bnot_sub {p r : Nat} (hp : p < 9223372036854775808) (hr : r < 9223372036854775808) : bnot (p : Int) r = 0 ↔ ∀ i, p.testBit i = true → r.testBit i = true := by
 rw [bnot_nat hp hr]
 have : ((p ^^^ (p &&& r) : Nat) : Int) = 0 ↔ p ^^^ (p &&& r) = 0 := by omega
 rw [this]
 constructor
 ·intro h i hi
  have := congrArg (fun n => Nat.testBit n i) h
  simp only [Nat.testBit_xor, Nat.testBit_and, hi, Nat.zero_testBit] at this
  simpa using this
 ·intro h
  apply Nat.eq_of_testBit_eq
  intro i
  simp only [Nat.testBit_xor, Nat.testBit_and, Nat.zero_testBit]
  have := h i
  cases hp : p.testBit i
  ·simp
  ·rw [this hp]; simp
end Go.Proofs.YtonolfpnidaflaaGreatDoor.E

namespace Go.Proofs.YtonolfpnidaflaaGreatDoor.E
open Go
set_option linter.unusedSimpArgs false
set_option linter.unusedVariables false
set_option linter.unusedSectionVars false
set_option maxRecDepth 20000
abbrev I (n : Int) : AV := .val (.int .i64 n)
abbrev B (b : Bool) : AV := .val (.bool b)
theorem I_eq {a b : Int} (h : a = b) : I a = I b := h ▸ rfl
theorem B_eq {a b : Bool} (h : a = b) : B a = B b := h ▸ rfl
abbrev ints (l : List Int) : AV := .list 1 (l.map fun n => [I n])
theorem get_lt {α : Type} {l : List α} {i : Nat} (h : (i : Int) < l.length) : ∃ x, l[i]? = some x := ⟨l[i]'(by omega), List.getElem?_eq_getElem (by omega)⟩
theorem get_drop {α : Type} {l : List α} {i : Nat} {x : α} (h : l[i]? = some x) : l.drop i = x :: l.drop (i + 1) := by
 obtain ⟨hi, rfl⟩ := List.getElem?_eq_some_iff.1 h
 exact List.drop_eq_getElem_cons hi
theorem drop_all {α : Type} {l : List α} {i : Nat} (h : ¬ (i : Int) < l.length) : l.drop i = [] := List.drop_eq_nil_of_le (by omega)
theorem take_get {α : Type} {l : List α} {i : Nat} {x : α} (h : l[i]? = some x) : l.take (i + 1) = l.take i ++ [x] := by
 rw [List.take_add_one, h]; rfl
theorem wr_add1 {i n : Nat} (h : (i : Int) < n) (k : n < 2 ^ 62) : IntKind.i64.wrap ((i : Int) + 1) = ((i + 1 : Nat) : Int) := by
 rw [wr_i64 (by omega) (by omega)]; omega
theorem i64_bits : IntKind.i64.bits = 64 := rfl
theorem pow_lt {k : Nat} (h : k < 62) : 2 ^ k < 2 ^ 62 := Nat.pow_lt_pow_right (by omega) h
theorem i64_nat {n : Nat} (h : n < 2 ^ 63) : IntKind.i64.wrap (n : Int) = n := wr_i64 (by omega) (by omega)
theorem shl1 {k : Nat} (h : k < 62) : IntKind.i64.wrap (1 * 2 ^ min k IntKind.i64.bits) = ((2 ^ k : Nat) : Int) := by
 rw [i64_bits, Nat.min_eq_left (by omega)]
 have := pow_lt h
 have e : (1 : Int) * 2 ^ k = ((2 ^ k : Nat) : Int) := by simp
 rw [e]
 exact i64_nat (by omega)
theorem shr_nat {o k : Nat} (h : k < 62) : (o : Int).fdiv (2 ^ min k IntKind.i64.bits) = ((o >>> k : Nat) : Int) := by
 rw [i64_bits, Nat.min_eq_left (by omega), Nat.shiftRight_eq_div_pow, Int.fdiv_eq_ediv_of_nonneg _ (Int.le_of_lt (Int.pow_pos (by omega)))]
 simp
theorem bit_eq {o k : Nat} (ho : o < 2 ^ 62) (h : k < 62) : (bits .and .i64 ((o : Int).fdiv (2 ^ min k IntKind.i64.bits)) 1 = 1) = (o.testBit k = true) := by
 rw [shr_nat h]
 have h2 : o >>> k ≤ o := by rw [Nat.shiftRight_eq_div_pow]; exact Nat.div_le_self _ _
 have := band_nat (n := o >>> k) (m := 1) (by omega) (by omega)
 show (band ((o >>> k : Nat) : Int) ((1 : Nat) : Int) = 1) = _
 rw [this, Nat.testBit, Nat.and_comm]
 apply propext
 simp only [bne_iff_ne, ne_eq, Nat.one_and_eq_mod_two]
 omega
theorem tk1 {α β : Type} (f : α → β) (l : List α) : List.take l.length (List.map f l) = List.map f l := List.take_of_length_le (by simp)
end Go.Proofs.YtonolfpnidaflaaGreatDoor.E

namespace Go.Proofs.YtonolfpnidaflaaGreatDoor.E
open Go Go.ChangeShapes
set_option linter.unusedSimpArgs false
set_option linter.unusedVariables false
set_option linter.unusedSectionVars false
set_option maxRecDepth 20000
/-- The shape of a type. -/
inductive Sh where
 | int (k : IntKind)
 | bool
 | str
 | slice (k : Nat) (e : Sh)
 | struct (l : List Sh)
mutual
def Sh.has : Sh → List AV → Prop
 | .int k, aS => ∃ n, aS = [.val (.int k n)] ∧ (Lit.int k n).wf = true
 | .bool, aS => ∃ b, aS = [.val (.bool b)]
 | .str, aS => ∃ s : ByteArray, aS = [.val (.string s)] ∧ s.size ≤ maxLen
 | .slice k e, aS => ∃ rows, aS = [.list k rows] ∧ rows.length ≤ maxLen ∧ ∀ r ∈ rows, e.has r
 | .struct l, aS => Sh.hasL l aS
def Sh.hasL : List Sh → List AV → Prop
 | [], aS => aS = []
 | s :: l, aS => ∃ a b, aS = a ++ b ∧ s.has a ∧ Sh.hasL l b
end
mutual
def Sh.fits (P : Program) : Sh → TypeId → Bool
 | .int k, t => match P.underlying t with | some (.int k') => k == k' && P.cellsOf t == 1 | _ => false
 | .bool, t => match P.underlying t with | some .bool => P.cellsOf t == 1 | _ => false
 | .str, t => match P.underlying t with | some .string => P.cellsOf t == 1 | _ => false
 | .slice k e, t => match P.underlying t with | some (.slice u) => P.cellsOf u == k && decide (0 < k) && e.fits P u && P.cellsOf t == 1 | _ => false
 | .struct l, t => match P.underlying t with | some (.struct fs) => Sh.fitsL P l fs.toList 0 (P.cellsOf t) | _ => false
def Sh.fitsL (P : Program) : List Sh → List Field → Nat → Nat → Bool
 | [], [], o, n => o == n
 | s :: l, f :: fs, o, n => f.offset == o && s.fits P f.type && Sh.fitsL P l fs (o + P.cellsOf f.type) n
 | _, _, _, _ => false
end
section
variable {H : Type} {enc : TypeId × Value → H} {P : Program} {w : World} {sp : Nat → Bool} {held : Bool}
abbrev old (w : World) (b : Nat) : Prop := b < w.heap.size
/-- Cells that are read aS views. -/
def Cw (w : World) (aS : List AV) (cs : List Value) : Prop := RVL w (old w) aS cs ∧ ∀ u ∈ cs, u.oneCell' = true
theorem Cw.nil : Cw w [] [] := ⟨by simp only [RVL], by simp⟩
theorem Cw.append {a b : List AV} {x y : List Value} (h : Cw w a x) (k : Cw w b y) : Cw w (a ++ b) (x ++ y) :=
 ⟨h.1.append k.1, fun u hu => (List.mem_append.1 hu).elim (h.2 u) (k.2 u)⟩
theorem RVAt_of {S : Nat → Prop} {aS : List AV} {cs : List Value} (h : RVL w S aS cs) (ho : ∀ u ∈ cs, u.oneCell' = true) {b off : Nat} (hc : ∀ i u, cs[i]? = some u → w.cell? ⟨b, off + i, none⟩ = some u) : RVAt w S aS b off := by
 induction aS generalizing cs off with
 | nil => simp only [RVAt]
 | cons p a ih =>
  simp only [RVL] at h
  obtain ⟨u, us, rfl, h1, h2⟩ := h
  simp only [RVAt]
  refine ⟨⟨u, by simpa using hc 0 u rfl, ho u (by simp), h1⟩, ih h2 (fun v hv => ho v (by simp [hv])) fun i v hv => ?_⟩
  have := hc (i + 1) v (by simpa using hv)
  rwa [show off + 1 + i = off + (i + 1) by omega]
theorem cells_get {base : Nat} {a : Addr} {n : Nat} {cs : List Value} (h : w.cells? base a n = some cs) : cs.length = n ∧ ∀ i u, cs[i]? = some u → w.cell? (a.add i) = some u := by
 unfold World.cells? at h
 split at h
 ·have hl := mapM_some_length h
  refine ⟨by simpa using hl, fun i u hu => ?_⟩
  have hi : i < n := by have := (List.getElem?_eq_some_iff.1 hu).1; simp at hl; omega
  have := mapM_some_get h i i (by simp [hi])
  rw [this, hu]
 ·cases h
theorem spot_none {a : Addr} {u : Value} (h : w.cell? a = some u) : a.spot = none := by
 unfold World.cell? at h
 split at h
 ·split at h
  ·cases h
  ·rename_i hs; simpa using hs
 ·cases h
theorem cell_lt {a : Addr} {u : Value} (h : w.cell? a = some u) : a.block < w.heap.size := by
 unfold World.cell? at h
 split at h
 ·rename_i e; exact (Array.getElem?_eq_some_iff.1 e).1
 ·cases h
mutual
theorem read : ∀ (s : Sh) {t : TypeId} {fuel : Nat} {cs : List Value} {x : DataW H × List MemPlace}, s.fits P t = true → DataW.trod enc P w 0 sp held fuel t cs = some x → ∃ aS, s.has aS ∧ Cw w aS cs ∧ aS.length = P.cellsOf t
 | .int k, t, fuel, cs, x, hf, h => by
  simp only [Sh.fits] at hf
  split at hf
  ·rename_i k' e
   simp only [Bool.and_eq_true, beq_iff_eq] at hf
   obtain ⟨hk, hc⟩ := hf
   have hk : k = k' := by simpa using hk
   subst hk
   obtain ⟨n, rfl, _, hw⟩ := DataW.trod_int e h
   refine ⟨[.val (.int k n)], by simp only [Sh.has]; exact ⟨n, rfl, hw⟩, ⟨by simp [RVL, RV, plain], by simp [Value.oneCell']⟩, by simp [hc]⟩
  ·cases hf
 | .bool, t, fuel, cs, x, hf, h => by
  simp only [Sh.fits] at hf
  split at hf
  ·rename_i e
   obtain ⟨b, rfl, _⟩ := DataW.trod_bool e h
   refine ⟨[.val (.bool b)], by simp only [Sh.has]; exact ⟨b, rfl⟩, ⟨by simp [RVL, RV, plain], by simp [Value.oneCell']⟩, by simp [(show P.cellsOf t = 1 by simpa using hf)]⟩
  ·cases hf
 | .str, t, fuel, cs, x, hf, h => by
  simp only [Sh.fits] at hf
  split at hf
  ·rename_i e
   obtain ⟨s, rfl, _, hw⟩ := DataW.trod_string e h
   refine ⟨[.val (.string s)], by simp only [Sh.has]; exact ⟨s, rfl, hw⟩, ⟨by simp [RVL, RV, plain], by simp [Value.oneCell']⟩, by simp [(show P.cellsOf t = 1 by simpa using hf)]⟩
  ·cases hf
 | .slice k e, t, fuel, cs, x, hf, h => by
  simp only [Sh.fits] at hf
  split at hf
  ·rename_i u hu
   simp only [Bool.and_eq_true, beq_iff_eq, decide_eq_true_eq] at hf
   obtain ⟨⟨⟨hk, h0⟩, he⟩, hone⟩ := hf
   rcases DataW.trod_slice hu h with ⟨rfl, _⟩ | ⟨a, len, cap, elems, rest, n, _, rfl, _, hb, hl, hm, hlen, hel, _, _⟩
   ·refine ⟨[.list k []], by simp only [Sh.has]; exact ⟨[], rfl, by simp, by simp⟩, ⟨?_, by simp [Value.oneCell']⟩, by simp [hone]⟩
    simp only [RVL, RV]
    exact ⟨_, _, rfl, ⟨none, 0, rfl, Nat.le_refl _, fun _ => rfl, .inl trivial⟩, rfl⟩
   ·have row : ∀ m j, j + m = len → ∃ rows : List (List AV), rows.length = m ∧ (∀ r ∈ rows, e.has r) ∧ RVRows w (old w) k rows a.block (a.off + j * k) ∧ (rows = [] ∨ ((j = 0 → a.spot = none) ∧ old w a.block)) := by
     intro m
     induction m with
     | zero => intro j _; exact ⟨[], rfl, by simp, by simp only [RVRows], .inl rfl⟩
     | succ m ih =>
      intro j hj
      obtain ⟨rows, h1, h2, h3, h4⟩ := ih (j + 1) (by omega)
      have hj' := hel j (by omega)
      have : (elems[j]?) = some (elems[j]'(by omega)) := List.getElem?_eq_getElem (by omega)
      rw [this, Option.bind_eq_some_iff] at hj'
      obtain ⟨cs', hc, ht⟩ := hj'
      obtain ⟨aS, k1, k2, k3⟩ := read e he ht
      obtain ⟨c1, c2⟩ := cells_get hc
      rw [hk] at c1 c2
      have c0 : ∃ v, cs'[0]? = some v := ⟨cs'[0]'(by omega), List.getElem?_eq_getElem (by omega)⟩
      obtain ⟨v, hv⟩ := c0
      have c3 := c2 0 v hv
      have hadd : ∀ i, (a.add (j * k)).add i = ⟨a.block, a.off + j * k + i, a.spot⟩ ∨ ((a.add (j * k)).add i = ⟨a.block, a.off + j * k + i, none⟩) := by
       intro i
       unfold Addr.add
       by_cases z1 : j * k = 0
       ·by_cases z2 : i = 0
        ·subst z2; left; simp [z1]
        ·right; simp [z1, z2]
       ·by_cases z2 : i = 0
        ·subst z2; right; simp [z1]
        ·right; simp [z1, z2]
      have hold : old w a.block := by
       have := cell_lt c3
       rcases hadd 0 with q | q <;> rw [q] at this <;> exact this
      have hsp : ∀ i, i < k → (a.add (j * k)).add i = ⟨a.block, a.off + j * k + i, none⟩ := by
       intro i hi
       obtain ⟨v', hv'⟩ : ∃ v, cs'[i]? = some v := ⟨cs'[i]'(by omega), List.getElem?_eq_getElem (by omega)⟩
       have h5 := spot_none (c2 i v' hv')
       rcases hadd i with q | q
       ·rw [q] at h5 ⊢; simp only at h5; rw [h5]
       ·exact q
      refine ⟨aS :: rows, by simp [h1], ?_, ?_, ?_⟩
      ·intro r hr
       rcases List.mem_cons.1 hr with rfl | hr
       ·exact k1
       ·exact h2 r hr
      ·simp only [RVRows]
       refine ⟨by omega, RVAt_of k2.1 k2.2 fun i u hu => ?_, ?_⟩
       ·have hi : i < k := by have := (List.getElem?_eq_some_iff.1 hu).1; omega
        rw [← hsp i hi]; exact c2 i u hu
       ·rw [show a.off + j * k + k = a.off + (j + 1) * k by rw [Nat.add_mul]; omega]; exact h3
      ·right
       refine ⟨fun hj0 => ?_, hold⟩
       subst hj0
       have := congrArg Addr.spot (hsp 0 h0)
       simpa [Addr.add] using this
    obtain ⟨rows, h1, h2, h3, h4⟩ := row len 0 (by omega)
    refine ⟨[.list k rows], by simp only [Sh.has]; exact ⟨rows, rfl, by omega, h2⟩, ⟨?_, by simp [Value.oneCell']⟩, by simp [hone]⟩
    simp only [RVL, RV]
    refine ⟨_, _, rfl, ⟨some a, cap, by rw [h1], by omega, fun q => absurd q (by simp), ?_⟩, rfl⟩
    rcases h4 with h4 | ⟨h4, h5⟩
    ·exact .inl h4
    ·obtain ⟨b, off, spot⟩ := a
     have h4 : spot = none := h4 rfl
     subst h4
     exact .inr ⟨b, off, rfl, h5, by simpa using h3⟩
  ·cases hf
 | .struct l, t, fuel, cs, x, hf, h => by
  simp only [Sh.fits] at hf
  split at hf
  ·rename_i fs e
   obtain ⟨xs, n, _, _, hl, hlen, hel⟩ := DataW.trod_struct e h
   obtain ⟨aS, h1, h2, h3⟩ := readL l (fs := fs.toList) (o := 0) (cs := cs) hf (by omega) (n := n) (fun f hm => by
    obtain ⟨i, hi⟩ := List.getElem?_of_mem hm
    rw [Array.getElem?_toList] at hi
    have := hel i f hi
    have hlt : i < xs.length := by rw [hlen]; exact (Array.getElem?_eq_some_iff.1 hi).1
    rw [List.getElem?_eq_getElem hlt] at this
    exact ⟨_, this⟩)
   exact ⟨aS, by simp only [Sh.has]; exact h1, by simpa using h2, by simpa using h3⟩
  ·cases hf
theorem readL : ∀ (l : List Sh) {fs : List Field} {o n tot : Nat} {cs : List Value}, Sh.fitsL P l fs o tot = true → cs.length = tot → (∀ f ∈ fs, ∃ x, DataW.trod enc P w 0 sp held n f.type ((cs.drop f.offset).take (P.cellsOf f.type)) = some x) → ∃ aS, Sh.hasL l aS ∧ Cw w aS (cs.drop o) ∧ aS.length + o = tot
 | [], fs, o, n, tot, cs, hf, hl, h => by
  cases fs with
  | nil =>
   simp only [Sh.fitsL, beq_iff_eq] at hf
   refine ⟨[], by simp only [Sh.hasL], ?_, by simpa using hf⟩
   rw [List.drop_eq_nil_of_le (by omega)]
   exact Cw.nil
  | cons _ _ => simp [Sh.fitsL] at hf
 | s :: l, fs, o, n, tot, cs, hf, hl, h => by
  cases fs with
  | nil => simp [Sh.fitsL] at hf
  | cons f fs =>
   simp only [Sh.fitsL, Bool.and_eq_true, beq_iff_eq] at hf
   obtain ⟨⟨h1, h2⟩, h3⟩ := hf
   obtain ⟨x, hx⟩ := h f (by simp)
   obtain ⟨aS, k1, k2, k3⟩ := read s h2 hx
   obtain ⟨bs, k4, k5, k6⟩ := readL l h3 hl (fun g hg => h g (by simp [hg]))
   refine ⟨aS ++ bs, by simp only [Sh.hasL]; exact ⟨aS, bs, rfl, k1, k4⟩, ?_, by simp; omega⟩
   have : cs.drop o = (cs.drop o).take (P.cellsOf f.type) ++ cs.drop (o + P.cellsOf f.type) := by
    rw [← List.drop_drop, List.take_append_drop]
   rw [this]
   rw [h1] at k2
   exact k2.append k5
end
/-- A whole value of a shape. -/
def Sh.hasV : Sh → AV → Prop
 | .struct l, x => ∃ aS, x = .agg aS ∧ Sh.hasL l aS
 | s, x => s.has [x]
theorem readV {r : Reach} {base : Nat} {s : Sh} {t : TypeId} {v : Value} {d : DataW H} {ps : List MemPlace} (hf : s.fits P t = true) (hv : Value.okWide P w r base t v) (h : DataW.Trod enc P w 0 sp held t v d ps) : ∃ x, s.hasV x ∧ RV w (old w) x v := by
 obtain ⟨fuel, h⟩ := h
 cases s with
 | struct l =>
  have hf' := hf
  simp only [Sh.fits] at hf'
  split at hf'
  ·rename_i fs e
   unfold Value.okWide at hv
   rw [e] at hv
   obtain ⟨cs, rfl, _, _⟩ := hv
   obtain ⟨aS, h1, h2, _⟩ := read (.struct l) hf h
   refine ⟨.agg aS, ⟨aS, rfl, by simpa only [Sh.has] using h1⟩, ?_⟩
   simp only [RV]
   exact ⟨cs.toList, by simp, h2.2, h2.1⟩
  ·cases hf'
 | _ =>
  all_goals
   obtain ⟨aS, h1, h2, h3⟩ := read _ hf h
   have hna : v.cells.toList = [v] := by
    cases v with
    | agg cs =>
     exfalso
     simp only [Sh.fits] at hf
     split at hf
     ·rename_i e
      unfold Value.okWide at hv
      rw [e] at hv
      simp only [Cell.okWide, Cell.ok, e] at hv
     ·cases hf
    | _ => rfl
   rw [hna] at h2
   obtain ⟨h4, h5⟩ := h2
   cases aS with
   | nil => simp [RVL] at h4
   | cons x aS =>
    simp only [RVL] at h4
    obtain ⟨u, us, e, h6, h7⟩ := h4
    cases us with
    | nil =>
     cases aS with
     | nil =>
      simp only [List.cons.injEq, and_true] at e
      subst e
      exact ⟨x, h1, h6⟩
     | cons _ _ => simp [RVL] at h7
    | cons _ _ => simp at e
def hasAll : List Sh → List AV → Prop
 | [], [] => True
 | s :: l, x :: xs => s.hasV x ∧ hasAll l xs
 | _, _ => False
theorem hasAll_cons {s : Sh} {l : List Sh} : ∀ {xs : List AV}, hasAll (s :: l) xs → ∃ x us, xs = x :: us ∧ s.hasV x ∧ hasAll l us
 | [], h => h.elim
 | x :: us, h => ⟨x, us, rfl, h.1, h.2⟩
theorem hasAll_nil : ∀ {xs : List AV}, hasAll [] xs → xs = []
 | [], _ => rfl
 | _ :: _, h => h.elim
def fitsAll (P : Program) : List Sh → List TypeId → Bool
 | [], [] => true
 | s :: l, t :: ts => s.fits P t && P.readableRec t && decide (t < P.types.size) && fitsAll P l ts
 | _, _ => false
theorem readAll {r : Reach} {base : Nat} : ∀ {l : List Sh} {ts : List TypeId} {vs : List Value} {ds : List (DataW H)} {ps : List MemPlace}, fitsAll P l ts = true → (∀ (j : Nat) t v, ts[j]? = some t → vs[j]? = some v → Value.okWide P w r base t v) →
  DataW.TrodAll enc P w 0 sp held ts vs ds ps → ∃ xs, hasAll l xs ∧ RVL w (old w) xs vs
 | [], ts, vs, ds, ps, hf, hv, h => by
  cases ts with
  | nil =>
   obtain ⟨rfl, rfl, rfl⟩ := trodAll_nil h
   exact ⟨[], trivial, by simp only [RVL]⟩
  | cons _ _ => simp [fitsAll] at hf
 | s :: l, ts, vs, ds, ps, hf, hv, h => by
  cases ts with
  | nil => simp [fitsAll] at hf
  | cons t ts =>
   simp only [fitsAll, Bool.and_eq_true] at hf
   obtain ⟨v, us, d, ds', p, q, rfl, rfl, rfl, h1, h2⟩ := trodAll_cons h
   obtain ⟨x, h3, h4⟩ := readV hf.1.1.1 (hv 0 t v rfl rfl) h1
   obtain ⟨xs, h5, h6⟩ := readAll hf.2 (fun j t v a b => hv (j + 1) t v (by simpa using a) (by simpa using b)) h2
   exact ⟨x :: xs, ⟨h3, h5⟩, by simp only [RVL]; exact ⟨v, us, rfl, h4, h6⟩⟩
theorem keepAll {W W' : World} (hl : laidOutB P = true) (hb : Go.RowKit.Below W.heap.size W W') : ∀ {l : List Sh} {ts : List TypeId} {vs : List Value} {ds : List (DataW H)} {ps : List MemPlace}, fitsAll P l ts = true →
  DataW.TrodAll enc P W 0 (fun _ => true) true ts vs ds ps → DataW.TrodAll enc P W' 0 (fun b => decide (b < W.heap.size)) true ts vs ds ps
 | [], ts, vs, ds, ps, hf, h => by
  cases ts with
  | nil =>
   obtain ⟨rfl, rfl, rfl⟩ := trodAll_nil h
   exact trodAll_mk0
  | cons _ _ => simp [fitsAll] at hf
 | s :: l, ts, vs, ds, ps, hf, h => by
  cases ts with
  | nil => simp [fitsAll] at hf
  | cons t ts =>
   have hlt := h.lt
   simp only [fitsAll, Bool.and_eq_true, decide_eq_true_eq] at hf
   obtain ⟨v, us, d, ds', p, q, rfl, rfl, rfl, h1, h2⟩ := trodAll_cons h
   exact trodAll_cons_mk (Go.RowKit.Below.trod hl hf.1.1.2 hf.1.2 h1 hb (fun x hx => hlt x (by simp [hx]))) (keepAll hl hb hf.2 h2)
theorem lenAll {b : Nat} : ∀ {l : List Sh} {ts : List TypeId} {vs : List Value} {ds : List (DataW H)} {ps : List MemPlace}, fitsAll P l ts = true → DataW.TrodAll enc P w b sp held ts vs ds ps → ds.length = l.length
 | [], ts, vs, ds, ps, hf, h => by
  cases ts with
  | nil => obtain ⟨rfl, rfl, rfl⟩ := trodAll_nil h; rfl
  | cons _ _ => simp [fitsAll] at hf
 | s :: l, ts, vs, ds, ps, hf, h => by
  cases ts with
  | nil => simp [fitsAll] at hf
  | cons t ts =>
   simp only [fitsAll, Bool.and_eq_true] at hf
   obtain ⟨v, us, d, ds', p, q, rfl, rfl, rfl, h1, h2⟩ := trodAll_cons h
   simp [lenAll hf.2 h2]
end
end Go.Proofs.YtonolfpnidaflaaGreatDoor.E

namespace Go.Proofs.YtonolfpnidaflaaGreatDoor.E
open Go
set_option linter.unusedSimpArgs false
set_option linter.unusedVariables false
set_option linter.unusedSectionVars false
set_option maxRecDepth 20000
theorem has_int {x : AV} (h : Sh.hasV (.int .i64) x) : ∃ n, x = I n := by
 simp only [Sh.hasV, Sh.has, List.cons.injEq, and_true] at h
 obtain ⟨n, rfl, _⟩ := h
 exact ⟨n, rfl⟩
end Go.Proofs.YtonolfpnidaflaaGreatDoor.E

namespace Go.Proofs.YtonolfpnidaflaaGreatDoor.E
open Go
set_option linter.unusedSimpArgs false
set_option linter.unusedVariables false
set_option linter.unusedSectionVars false
set_option maxRecDepth 20000
theorem cloneInts_ok (l : List Int) (hl : l.length * 8 ≤ 140737488355328) : OkH Tryz.prog 70 [ints l] [] (.own (.e 0) 1 1 0 l.length) [(1, .row 3 1 none (l.map fun n => [I n]))] := by
 refine OkH.of_wpX (rs := [.tmp 2]) (n := 8) Tryz.func70 rfl rfl rfl (by simp) fo (by kernel_rfl) ?_
 simp +decide -implicitDefEqProofs only [S0, simprocAttr]
 refine ⟨fun h => ⟨[none], ?_⟩, hl, ⟨[some (.l 5)], ?_⟩⟩
 ·obtain rfl := List.map_eq_nil_iff.1 h
  simp +decide -implicitDefEqProofs only [S0, simprocAttr]
 ·simp +decide -implicitDefEqProofs only [S0, simprocAttr]
end Go.Proofs.YtonolfpnidaflaaGreatDoor.E
