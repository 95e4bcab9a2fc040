/- Plain law: the text of a record, and what a text says. No conditions. -/
import Derived.Test.YtonolfpnidaflaaGreatDoorGSt
import Derived.Test.YtonolfpnidaflaaGreatDoorTxtP
namespace Go.Proofs.YtonolfpnidaflaaGreatDoor.E
open Go
set_option linter.unusedSimpArgs false
set_option linter.unusedVariables false
set_option linter.unusedSectionVars false
set_option maxRecDepth 20000
def fdL (f : Fd) : List UInt8 := f.key.data.toList ++ 61 :: f.val.data.toList
def recL (r : Rc) : List UInt8 := r.id.data.toList ++ 59 :: (Lib.itoa r.cats ++ 59 :: (joinC 44 (r.fields.map fdL) ++ 59 :: joinC 44 (r.refs.map fun s => s.data.toList)))
def wrL (r : Rc) : List UInt8 := if chkRec r = 0 then recL r else []
def noRc : Rc := ⟨⟨#[]⟩, 0, [], []⟩
def ofFd (l : List UInt8) : Option Fd := if 61 ∈ l then some ⟨bs (Lib.cut l [61]).1, bs (Lib.cut l [61]).2.1⟩ else none
def ofFds : List (List UInt8) → Option (List Fd)
 | [] => some []
 | w :: l => match ofFd w with
  | none => none
  | some f => (ofFds l).map (f :: ·)
/-- What a text of four parts says; whether it may be is not asked. -/
def rawRc (l : List UInt8) : Option Rc := match splitC 59 l with
 | [a, b, c, d] => match numOk b with
  | none => none
  | some n => match ofFds (splitE 44 c) with
   | none => none
   | some fs => some ⟨bs a, n, fs, (splitE 44 d).map bs⟩
 | _ => none
def readC (l : List UInt8) : Int := match rawRc l with
 | none => 10
 | some r => chkRec r
def readR (l : List UInt8) : Rc := match rawRc l with
 | none => noRc
 | some r => if chkRec r = 0 then r else noRc
theorem idOk_mem {s : ByteArray} (h : idOk s = true) {x : UInt8} (hx : x ∈ s.data.toList) : idB x = true := by
 simp only [idOk, Bool.and_eq_true, List.all_eq_true] at h
 exact h.2 x hx
theorem idOk_ne {s : ByteArray} (h : idOk s = true) : s.data.toList ≠ [] := by
 intro e
 simp only [idOk, Bool.and_eq_true, Bool.not_eq_true', decide_eq_false_iff_not] at h
 apply h.1.1
 rw [size_eq, e]; rfl
theorem valOk_mem {s : ByteArray} (h : valOk s = true) {x : UInt8} (hx : x ∈ s.data.toList) : valB x = true := by
 simp only [valOk, Bool.and_eq_true, List.all_eq_true] at h
 exact h.2 x hx
theorem id_no {s : ByteArray} (h : idOk s = true) {c : UInt8} (hc : idB c = false) : c ∉ s.data.toList := fun hx => by rw [idOk_mem h hx] at hc; cases hc
theorem val_no {s : ByteArray} (h : valOk s = true) {c : UInt8} (hc : valB c = false) : c ∉ s.data.toList := fun hx => by rw [valOk_mem h hx] at hc; cases hc
theorem fOk_mem {f : Fd} : ∀ {l : List Fd} {p : Option ByteArray}, fOk p l = true → f ∈ l → idOk f.key = true ∧ valOk f.val = true
 | [], _, _, h => by cases h
 | g :: l, p, h, hm => by
  simp only [fOk, Bool.and_eq_true] at h
  rcases List.mem_cons.1 hm with rfl | hm
  ·exact ⟨h.1, h.2.1⟩
  ·exact fOk_mem h.2.2.2 hm
theorem rOk_mem {s : ByteArray} : ∀ {l : List ByteArray} {p : Option ByteArray}, rOk p l = true → s ∈ l → idOk s = true
 | [], _, _, h => by cases h
 | g :: l, p, h, hm => by
  simp only [rOk, Bool.and_eq_true] at h
  rcases List.mem_cons.1 hm with rfl | hm
  ·exact h.1
  ·exact rOk_mem h.2.2 hm
structure GoodRc (r : Rc) : Prop where
 id : idOk r.id = true
 cats : 0 ≤ r.cats ∧ r.cats < 256
 nf : r.fields.length ≤ 6
 nr : r.refs.length ≤ 4
 fs : fOk none r.fields = true
 rs : rOk none r.refs = true
theorem chkRec_good (r : Rc) : chkRec r = 0 ↔ GoodRc r := by
 unfold chkRec
 constructor
 ·intro h
  split at h
  ·rename_i h1
   split at h
   ·rename_i h2
    split at h
    ·cases h
    ·rename_i h3
     split at h
     ·rename_i h4
      rw [Bool.and_eq_true] at h4
      exact ⟨h1, h2, by omega, by omega, h4.1, h4.2⟩
     ·cases h
   ·cases h
  ·cases h
 ·rintro ⟨h1, h2, h3, h4, h5, h6⟩
  rw [if_pos h1, if_pos h2, if_neg (by omega), h5, h6]
  rfl
theorem fdL_no {f : Fd} (h : idOk f.key = true ∧ valOk f.val = true) {c : UInt8} (hi : idB c = false) (hv : valB c = false) (hc : c ≠ 61) : c ∉ fdL f := by
 unfold fdL
 simp only [List.mem_append, List.mem_cons, not_or]
 exact ⟨id_no h.1 hi, hc, val_no h.2 hv⟩
theorem ofFd_fdL {f : Fd} (h : idOk f.key = true) : ofFd (fdL f) = some f := by
 unfold ofFd
 have hk := id_no h (c := 61) (by decide)
 rw [if_pos (by simp [fdL]), fdL, cut_hit hk]
 rfl
theorem ofFds_map : ∀ {l : List Fd}, (∀ f ∈ l, idOk f.key = true) → ofFds (l.map fdL) = some l
 | [], _ => rfl
 | f :: l, h => by
  rw [List.map_cons, ofFds, ofFd_fdL (h f (by simp)), ofFds_map fun g hg => h g (List.mem_cons_of_mem _ hg)]
  rfl
theorem itoa_no (n : Int) {c : UInt8} (h : ¬ (45 ≤ c.toNat ∧ c.toNat ≤ 57)) : c ∉ Lib.itoa n := fun hx => h (itoa_mem hx)
/-- A record is read as it was written. -/
theorem raw_recL {r : Rc} (h : GoodRc r) : rawRc (recL r) = some r := by
 obtain ⟨id, cats, fields, refs⟩ := r
 obtain ⟨h1, h2, h3, h4, h5, h6⟩ := h
 have hf : ∀ f ∈ fields, idOk f.key = true ∧ valOk f.val = true := fun f hf => fOk_mem h5 hf
 have hr : ∀ s ∈ refs, idOk s = true := fun s hs => rOk_mem h6 hs
 have e1 : splitE 44 (joinC 44 (fields.map fdL)) = fields.map fdL := split_joinE fun x hx => by
  obtain ⟨f, hf', rfl⟩ := List.mem_map.1 hx
  exact ⟨fdL_no (hf f hf') (by decide) (by decide) (by decide), by simp [fdL]⟩
 have e2 : splitE 44 (joinC 44 (refs.map fun s => s.data.toList)) = refs.map fun s => s.data.toList := split_joinE fun x hx => by
  obtain ⟨s, hs, rfl⟩ := List.mem_map.1 hx
  exact ⟨id_no (hr s hs) (by decide), idOk_ne (hr s hs)⟩
 have n1 : (59 : UInt8) ∉ joinC 44 (fields.map fdL) := fun hx => by
  rcases joinC_mem hx with h | ⟨y, hy, h⟩
  ·cases h
  ·obtain ⟨f, hf', rfl⟩ := List.mem_map.1 hy
   exact fdL_no (hf f hf') (by decide) (by decide) (by decide) h
 have n2 : (59 : UInt8) ∉ joinC 44 (refs.map fun s => s.data.toList) := fun hx => by
  rcases joinC_mem hx with h | ⟨y, hy, h⟩
  ·cases h
  ·obtain ⟨s, hs, rfl⟩ := List.mem_map.1 hy
   exact id_no (hr s hs) (by decide) h
 unfold rawRc recL
 rw [splitC_hit (id_no h1 (by decide)), splitC_hit (itoa_no _ (by decide)), splitC_hit n1, splitC_none n2]
 simp only [numOk_of (show -(10 ^ 8) < cats ∧ cats < 10 ^ 9 by simp only at h2; omega), e1, e2, ofFds_map fun f hf' => (hf f hf').1, List.map_map]
 refine congrArg some ?_
 congr 1
 exact (List.map_congr_left (g := fun s => s) fun s _ => bs_eta s).trans (List.map_id' _)
theorem ofFd_back {w : List UInt8} {f : Fd} (h : ofFd w = some f) : fdL f = w := by
 unfold ofFd at h
 rcases cut_cases 61 w with ⟨h1, _⟩ | ⟨a, b, rfl, h2, h3⟩
 ·rw [if_neg h1] at h; cases h
 ·rw [if_pos (by simp), h3] at h
  cases h
  rfl
theorem ofFds_back : ∀ {l : List (List UInt8)} {fs : List Fd}, ofFds l = some fs → fs.map fdL = l
 | [], fs, h => by cases h; rfl
 | w :: l, fs, h => by
  rw [ofFds] at h
  split at h
  ·cases h
  ·rename_i f e
   obtain ⟨r, hr, rfl⟩ := Option.map_eq_some_iff.1 h
   rw [List.map_cons, ofFd_back e, ofFds_back hr]
/-- A text is written as it was read. -/
theorem recL_raw {l : List UInt8} {r : Rc} (h : rawRc l = some r) : recL r = l := by
 unfold rawRc at h
 split at h
 ·rename_i a b c d e
  split at h
  ·cases h
  ·rename_i n hn
   split at h
   ·cases h
   ·rename_i fs hf
    cases h
    have hj := join_split 59 l
    rw [e] at hj
    simp only [joinC] at hj
    unfold recL
    simp only [(numOk_itoa hn).1, ofFds_back hf, join_splitE, List.map_map]
    have e2 : ((splitE 44 d).map ((fun s : ByteArray => s.data.toList) ∘ bs)) = splitE 44 d := (List.map_congr_left (g := id) fun x _ => bs_list x).trans (List.map_id _)
    rw [e2, join_splitE]
    exact hj
 ·cases h
theorem recL_inj {a b : Rc} (ha : GoodRc a) (hb : GoodRc b) : recL a = recL b ↔ a = b := by
 constructor
 ·intro h
  have := raw_recL ha
  rw [h, raw_recL hb] at this
  exact (Option.some.inj this).symm
 ·rintro rfl; rfl
theorem readC_recL {r : Rc} (h : GoodRc r) : readC (recL r) = 0 ∧ readR (recL r) = r := by
 rw [readC, readR, raw_recL h]
 exact ⟨(chkRec_good r).2 h, if_pos ((chkRec_good r).2 h)⟩
theorem readC_zero {l : List UInt8} (h : readC l = 0) : rawRc l = some (readR l) ∧ GoodRc (readR l) ∧ recL (readR l) = l := by
 unfold readC at h
 unfold readR
 split at h
 ·cases h
 ·rename_i r e
  simp only [e, if_pos h]
  exact ⟨trivial, (chkRec_good r).1 h, recL_raw e⟩
theorem readR_bad {l : List UInt8} (h : readC l ≠ 0) : readR l = noRc := by
 unfold readC at h
 unfold readR
 split at h
 ·rfl
 ·rename_i r e
  exact if_neg h
end Go.Proofs.YtonolfpnidaflaaGreatDoor.E
