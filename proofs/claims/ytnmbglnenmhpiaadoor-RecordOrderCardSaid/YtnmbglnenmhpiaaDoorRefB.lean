/- Walks: the stores that the laws speak of. No conditions. -/
import Derived.Test.YtnmbglnenmhpiaaDoorRefA
import Derived.Test.YtnmbglnenmhpiaaDoorRoleP
namespace Go.Proofs.YtnmbglnenmhpiaaDoor.E
open Go
set_option linter.unusedSimpArgs false
set_option linter.unusedVariables false
set_option linter.unusedSectionVars false
set_option maxRecDepth 20000
def cutR (l : List Vn) (id : ByteArray) (c : Int) : Int := if idOk id = true then (if 0 ≤ c ∧ c < 256 then (if lives l id c = true then (if 20 ≤ cnt l c then 2 else 0) else 4) else 1) else 3
def nmS (n : Nat) : ByteArray := if n = 0 then ⟨#[97]⟩ else if n = 1 then ⟨#[98]⟩ else ⟨#[99]⟩
def xyS (n : Nat) : ByteArray := if n = 0 then ⟨#[120]⟩ else ⟨#[121]⟩
def grow1 (l : List Vn) (c : List Int) : List Vn :=
  match c with
  | a :: b :: d :: _ =>
    if wN d 4 = 0 then (if cutR l (nmS (wN a 3)) (wN b 8) = 0 then l ++ [⟨⟨nmS (wN a 3), wN b 8, [], []⟩, true⟩] else l)
    else l ++ [⟨⟨nmS (wN a 3), wN b 8, [⟨⟨#[107]⟩, xyS (wN d 2)⟩], if wN d 3 = 0 then [nmS (wN b 3)] else []⟩, false⟩]
  | _ => l
def grownL (l : List (List Int)) : List Vn := (l.take 15).foldl grow1 []
theorem grow1_len (l : List Vn) (c : List Int) : (grow1 l c).length ≤ l.length + 1 := by
  unfold grow1
  split
  · split
    · split <;> simp
    · simp
  · omega
theorem grow1_short {l : List Vn} {c : List Int} (h : c.length < 3) : grow1 l c = l := by
  rcases c with _ | ⟨a, _ | ⟨b, _ | ⟨d, c⟩⟩⟩
  · rfl
  · rfl
  · rfl
  · simp only [List.length_cons] at h; omega
theorem long_of {c : List Int} (h : ¬ c.length < 3) : ∃ a b d c', c = a :: b :: d :: c' := by
  rcases c with _ | ⟨a, _ | ⟨b, _ | ⟨d, c⟩⟩⟩
  · simp at h
  · simp at h
  · simp at h
  · exact ⟨a, b, d, c, rfl⟩
end Go.Proofs.YtnmbglnenmhpiaaDoor.E
