/- Walks: package store: put, cut, get. No conditions. -/
import Derived.Test.YtonolfpnidaflaaDoorStore
namespace Go.Proofs.YtonolfpnidaflaaDoor.E
open Go
set_option linter.unusedSimpArgs false
set_option linter.unusedVariables false
set_option linter.unusedSectionVars false
set_option maxRecDepth 20000
def lensOk (l : List Vn) : Prop := ∀ v ∈ l, v.r.fields.length ≤ 1000000 ∧ v.r.refs.length ≤ 1000000
theorem chkGo_mem {p l : List Vn} (h : chkGo p l = 0) : ∀ v ∈ l, chkRec v.r = 0 := by
  induction l generalizing p with
  | nil => intro v hv; cases hv
  | cons x l ih =>
    simp only [chkGo] at h
    split at h
    · rename_i h1
      intro v hv
      rcases List.mem_cons.1 hv with rfl | hv
      · unfold stepE at h1
        split at h1
        · assumption
        · contradiction
      · exact ih h v hv
    · contradiction
theorem chkSt_len {l : List Vn} (h : chkSt l = 0) : l.length ≤ 5120 ∧ ∀ v ∈ l, chkRec v.r = 0 := by
  unfold chkSt at h
  split at h
  · omega
  · exact ⟨by omega, chkGo_mem h⟩
theorem chkSt_lens {l : List Vn} (h : chkSt l = 0) : lensOk l := fun v hv => by
  have := chkRec_len ((chkSt_len h).2 v hv)
  omega
theorem lens_add {l : List Vn} {r : Rc} {g : Bool} (h : lensOk l) (k : chkRec r = 0) : lensOk (l ++ [⟨r, g⟩]) := fun v hv => by
  rcases List.mem_append.1 hv with hv | hv
  · exact h v hv
  · rw [List.mem_singleton.1 hv]
    have := chkRec_len k
    show r.fields.length ≤ _ ∧ r.refs.length ≤ _
    omega
def putE (l : List Vn) (r : Rc) : Int := if chkSt l = 0 then (if chkRec r = 0 then (if cnt l r.cats = 20 then 2 else 0) else chkRec r) else chkSt l
theorem app_vers (l : List Vn) (r : Rc) (g : Bool) : List.map verC l ++ [[S r.id, I r.cats, fds r.fields, strs r.refs, B g]] = List.map verC (l ++ [⟨r, g⟩]) := by simp
theorem tk_vers (l : List Vn) (v : Vn) : List.take (l.length + 1) (List.map verC (l ++ [v])) = List.map verC (l ++ [v]) := List.take_of_length_le (by simp)
def cutE (l : List Vn) (id : ByteArray) (c : Int) : Int :=
  if chkSt l = 0 then (if idOk id = true then (if 0 ≤ c ∧ c < 256 then (if lives l id c = true then (if cnt l c = 20 then 2 else 0) else 4) else 1) else 3) else chkSt l
def getRev (id : ByteArray) : List Vn → (Int → Bool) → Option Rc
  | [], _ => none
  | v :: l, g => if v.r.id = id then (if v.gone = false ∧ g v.r.cats = false then some v.r else getRev id l (fun c => decide (v.r.cats = c) || g c)) else getRev id l g
def getN (l : List Vn) (id : ByteArray) : Option Rc := getRev id l.reverse fun _ => false
abbrev noRec : Rc := ⟨⟨#[]⟩, 0, [], []⟩
def getE (l : List Vn) (id : ByteArray) : Int := if chkSt l = 0 then (if (getN l id).isSome then 0 else 4) else chkSt l
theorem rev_take {α : Type} {l : List α} {i : Nat} {x : α} (h : l[i]? = some x) : (l.take (i + 1)).reverse = x :: (l.take i).reverse := by
  rw [take_get h]; simp
end Go.Proofs.YtonolfpnidaflaaDoor.E
