/- Walks: numbers and texts of the library, by the shelf's contracts. No conditions. -/
import Derived.Test.YtonolfpnidaflaaGreatDoorGSt
import Derived.Test.YtonolfpnidaflaaGreatDoorTxtP
import Derived.Test.YtonolfpnidaflaaGreatDoorTab
import Derived.Test.YtonolfpnidaflaaGreatDoorShelf
import Derived.Lib.LaidTab
import Derived.Lib.AppendIntMem
import Derived.Lib.AtoiErrMem
import Derived.Lib.SmallJoins
import Derived.WalkSmall
namespace Go.Proofs.YtonolfpnidaflaaGreatDoor.E
open Go
set_option linter.unusedSimpArgs false
set_option linter.unusedVariables false
set_option linter.unusedSectionVars false
set_option maxRecDepth 20000
theorem gc_cell {w : World} {b : Nat} {cs : Array Value} (h : GC w b = some cs) (j : Nat) : w.cell? ⟨b, j, none⟩ = cs[j]? := by
 unfold GC at h
 unfold World.cell?
 split at h
 ·rename_i e
  cases h
  simp [e]
 ·cases h
theorem gc_var {P : Program} {w : World} {n : String} {g : Nat} {cs : Array Value} (hg : P.globalNamed n = some g) (h : GC w g = some cs) : w.var? P n = some cs := by
 unfold World.var?
 rw [hg]
 exact h
theorem gl_parts {w : World} {T : Nat → Prop} (h : Gl w T) : Lib.TabIs Tryz.prog w "internal/strconv.uint64pow10" .u64 Lib.pow10Tab ∧ (∃ tp p, w.var? Tryz.prog "strconv.ErrSyntax" = some #[.iface tp p]) ∧
  (∃ tp p, w.var? Tryz.prog "strconv.ErrRange" = some #[.iface tp p]) ∧ ∃ m, w.cell? ⟨0, 0, none⟩ = some (.int .i64 m) := by
 have h2 := h.2
 unfold GP GB at h2
 obtain ⟨a, ⟨tp, p, b⟩, ⟨tq, q, c⟩, cs, m, d, d2⟩ := h2
 have e : ∀ {g : Nat} {cs : Array Value}, g ∈ [0, 1, 2, 3] → (fun b => if b ∈ [0, 1, 2, 3] then GC w b else none) g = some cs → GC w g = some cs := fun hm he => by
  rw [← he]
  exact (if_pos hm).symm
 refine ⟨gc_var (by kernel_rfl) (e (by decide) a), ⟨tp, p, gc_var (by kernel_rfl) (e (by decide) b)⟩, ⟨tq, q, gc_var (by kernel_rfl) (e (by decide) c)⟩, m, ?_⟩
 rw [gc_cell (e (by decide) d)]
 exact d2
theorem Itoa_ok (n : Int) (h : -9223372036854775808 ≤ n ∧ n ≤ 9223372036854775807) : Ok Tryz.prog 47 [I n] (S (bs (Lib.itoa n))) := by
 intro w T vs hT hG hv
 simp only [RVL, RV] at hv
 obtain ⟨_, _, rfl, ⟨rfl, _⟩, rfl⟩ := hv
 refine (Go.Proofs.Tryz.strconv_Itoa n h.1 h.2 w (gl_parts hG).1).mono ?_
 rintro e w' ⟨rfl, k, os, rfl⟩
 exact ⟨_, rfl, Lib.below_grow _ _ (Nat.le_refl _) _ _, by simp only [RV]; exact ⟨rfl, rfl⟩⟩
/-- What is told behind the number: nothing, or something. -/
def errA (l : List UInt8) : AV := match Lib.atoiAll l with
 | .ok _ => .val .nilIface
 | _ => .iface 196 (.rop [])
theorem Atoi_ok (s : ByteArray) (hs : s.size ≤ 281474976710656) : Ok Tryz.prog 60 [S s] (.tup [I (numA s.data.toList), errA s.data.toList]) := by
 intro w T vs hT hG hv
 simp only [RVL, RV] at hv
 obtain ⟨_, _, rfl, ⟨rfl, _⟩, rfl⟩ := hv
 obtain ⟨_, ⟨tp, p, h1⟩, ⟨tq, q, h2⟩, _⟩ := gl_parts hG
 unfold numA errA
 cases e : Lib.atoiAll s.data.toList with
 | ok v =>
  refine (Go.Proofs.Tryz.strconv_Atoi_ok s (by omega) v e w).mono ?_
  rintro e w' ⟨rfl, hw⟩
  refine ⟨_, rfl, ?_, by simp only [RV, RVL]; exact ⟨[_, _], rfl, _, _, rfl, ⟨rfl, rfl⟩, _, _, rfl, ⟨rfl, rfl⟩, rfl⟩⟩
  rcases hw with rfl | ⟨t, rfl⟩
  ·exact Go.RowKit.Below.refl _ _
  ·exact Lib.bytesWorld_below _ _ _
 | range =>
  refine (Go.Proofs.Tryz.strconv_Atoi_range_var s hs e tq q w h2).mono ?_
  rintro e w' ⟨N, rfl, hN, _, hB⟩
  exact ⟨_, rfl, hB, by simp only [RV, RVL, RVAt]; exact ⟨[_, _], rfl, _, _, rfl, ⟨rfl, rfl⟩, _, _, rfl, ⟨_, rfl, N, 0, rfl, .inl trivial, trivial⟩, rfl⟩⟩
 | _ =>
  refine (show Calls Tryz.prog 60 _ w _ from Go.Proofs.Any.strconv_Atoi_syntax_var Go.Proofs.Tryz.laysC172 s hs e tp p w h1).mono ?_
  rintro e w' ⟨N, rfl, hN, _, hB⟩
  exact ⟨_, rfl, hB, by simp only [RV, RVL, RVAt]; exact ⟨[_, _], rfl, _, _, rfl, ⟨rfl, rfl⟩, _, _, rfl, ⟨_, rfl, N, 0, rfl, .inl trivial, trivial⟩, rfl⟩⟩
theorem rows_strs {w : World} {T : Nat → Prop} {b : Nat} (l : List ByteArray) (h : ∀ (i : Nat) s, l[i]? = some s → w.cell? ⟨b, i, none⟩ = some (.string s)) : RVRows w T 1 (l.map fun s => [S s]) b 0 := by
 refine RVRows.of_flat (fun r hr => by obtain ⟨s, _, rfl⟩ := List.mem_map.1 hr; rfl) ?_
 have e : (l.map fun s => [S s]).flatten = l.map fun s => S s := by
  clear h
  induction l with
  | nil => rfl
  | cons x l ih => simp only [List.map_cons, List.flatten_cons, ih]; rfl
 have e2 : RVL w T (l.map fun s => S s) (l.map Value.string) := by
  clear h e
  induction l with
  | nil => simp [RVL]
  | cons x l ih =>
   simp only [List.map_cons, RVL, RV]
   exact ⟨_, _, rfl, ⟨rfl, rfl⟩, ih⟩
 rw [e]
 refine RVAt.of_vals e2 (fun u hu => by obtain ⟨s, _, rfl⟩ := List.mem_map.1 hu; rfl) fun i u hu => ?_
 rw [Nat.zero_add]
 rw [List.getElem?_map, Option.map_eq_some_iff] at hu
 obtain ⟨s, hs, rfl⟩ := hu
 exact h i s hs
theorem cells_strs {w : World} {T : Nat → Prop} {b o : Nat} : ∀ {l : List ByteArray}, RVRows w T 1 (l.map fun s => [S s]) b o → ∀ (i : Nat) s, l[i]? = some s → w.cell? ⟨b, o + i, none⟩ = some (.string s)
 | [], _, i, s, hs => by simp at hs
 | x :: l, h, i, s, hs => by
  simp only [List.map_cons, RVRows, RVAt, RV] at h
  obtain ⟨_, ⟨⟨u, h1, _, rfl, _⟩, _⟩, h2⟩ := h
  cases i with
  | zero => simp at hs; subst hs; exact h1
  | succ i =>
   have := cells_strs h2 i s (by simpa using hs)
   rw [← this]
   congr 2
   omega
theorem Split_ok (s : ByteArray) (c : UInt8) (hs : s.size < 4294967281) : Ok Tryz.prog 54 [S s, S ⟨#[c]⟩] (.list 1 (((splitC c s.data.toList).map bs).map fun s => [S s])) := by
 intro w T vs hT hG hv
 simp only [RVL, RV] at hv
 obtain ⟨_, _, rfl, ⟨rfl, _⟩, _, _, rfl, ⟨rfl, _⟩, rfl⟩ := hv
 obtain ⟨_, _, _, m, hm⟩ := gl_parts hG
 refine (Go.Proofs.Tryz.strings_Split s ⟨#[c]⟩ m w hs hm (Nat.le_refl _)).mono ?_
 rintro e w' ⟨rfl, rfl⟩
 have hl : (Lib.splitB ⟨#[c]⟩ 0 (Lib.countB s ⟨#[c]⟩) s).length = Lib.countB s ⟨#[c]⟩ + 1 := Lib.splitB_all _ (Nat.le_refl _) 0 _ s rfl
 rw [splitB_one] at hl ⊢
 generalize (splitC c s.data.toList).map bs = L at *
 refine ⟨_, rfl, Joins.below_alloc1 _ _, ?_⟩
 simp only [RV]
 refine ⟨_, _, by rw [← hl, List.length_map], by rw [List.length_map, hl]; exact Nat.le_refl _, fun q => (by cases q), .inr ⟨w.heap.size, 0, rfl, .inr ⟨Nat.le_refl _, by simp⟩, rows_strs L fun i s h => ?_⟩⟩
 have hb := heap_new w (.cells (L.map Value.string).toArray 9)
 simp only [World.cell?, hb]
 simp [h]
theorem sCut_ok (s : ByteArray) (c : UInt8) (hs : s.size < 4294967281) : Ok Tryz.prog 61 [S s, S ⟨#[c]⟩] (.tup [S (bs (Lib.cut s.data.toList [c]).1), S (bs (Lib.cut s.data.toList [c]).2.1), B (Lib.cut s.data.toList [c]).2.2]) := by
 intro w T vs hT hG hv
 simp only [RVL, RV] at hv
 obtain ⟨_, _, rfl, ⟨rfl, _⟩, _, _, rfl, ⟨rfl, _⟩, rfl⟩ := hv
 obtain ⟨_, _, _, m, hm⟩ := gl_parts hG
 refine (Go.Proofs.Tryz.strings_Cut s ⟨#[c]⟩ m w hs hm).mono ?_
 rintro e w' ⟨rfl, n, rfl⟩
 exact ⟨_, rfl, below_drewN (Go.RowKit.Below.refl _ _) n, by simp only [RV, RVL]; exact ⟨[_, _, _], rfl, _, _, rfl, ⟨rfl, rfl⟩, _, _, rfl, ⟨rfl, rfl⟩, _, _, rfl, ⟨rfl, rfl⟩, rfl⟩⟩
theorem sJoin_ok (l : List ByteArray) (c : UInt8) (h1 : l.length ≤ 1000000) (h2 : (joinC c (l.map (·.data.toList))).length ≤ 140737488355328) : Ok Tryz.prog 23 [.list 1 (l.map fun s => [S s]), S ⟨#[c]⟩] (S (bs (joinC c (l.map (·.data.toList))))) := by
 intro w T vs hT hG hv
 simp only [RVL, RV] at hv
 obtain ⟨_, _, rfl, ⟨a, cap, rfl, hc, hn, hr⟩, _, _, rfl, ⟨rfl, _⟩, rfl⟩ := hv
 rw [List.length_map] at hc ⊢
 cases l with
 | nil =>
  refine (Go.Proofs.Tryz.strings_Join_none a cap ⟨#[c]⟩ w).mono ?_
  rintro e w' ⟨rfl, rfl⟩
  exact ⟨_, rfl, Go.RowKit.Below.refl _ _, by simp only [RV]; exact ⟨by trivial, rfl⟩⟩
 | cons x l =>
  rcases hr with hr | ⟨b, off, rfl, hb, hr⟩
  ·cases hr
  ·refine (Go.Proofs.Tryz.strings_Join b off cap (x :: l) ⟨#[c]⟩ w (fun j y hy => cells_strs hr j y hy) (hT b hb) (by omega) hc (by rw [join_one]; exact h2)).mono ?_
   rintro e w' ⟨rfl, hB⟩
   exact ⟨_, rfl, hB, by simp only [RV]; exact ⟨by rw [join_one]; rfl, rfl⟩⟩
theorem IndexByte_ok (s : ByteArray) (c : UInt8) : Ok Tryz.prog 91 [S s, .val (.int .u8 c.toNat)] (I (Lib.indexByte s.data.toList c)) := by
 intro w T vs hT hG hv
 simp only [RVL, RV] at hv
 obtain ⟨_, _, rfl, ⟨rfl, _⟩, _, _, rfl, ⟨rfl, _⟩, rfl⟩ := hv
 refine (Go.Proofs.Tryz.strings_IndexByte s c.toNat w).mono ?_
 rintro e w' ⟨rfl, rfl⟩
 exact ⟨_, rfl, Go.RowKit.Below.refl _ _, by simp only [RV]; exact ⟨by simp, rfl⟩⟩
theorem LastIndex_ok (s t : ByteArray) (hs : s.size < 4611686018427387904) : Ok Tryz.prog 92 [S s, S t] (I (Lib.lastIndex s.data.toList t.data.toList)) := by
 intro w T vs hT hG hv
 simp only [RVL, RV] at hv
 obtain ⟨_, _, rfl, ⟨rfl, _⟩, _, _, rfl, ⟨rfl, _⟩, rfl⟩ := hv
 refine (Go.Proofs.Tryz.strings_LastIndex s t hs w).mono ?_
 rintro e w' ⟨rfl, rfl⟩
 exact ⟨_, rfl, Go.RowKit.Below.refl _ _, by simp only [RV]; exact ⟨by trivial, rfl⟩⟩
end Go.Proofs.YtonolfpnidaflaaGreatDoor.E
