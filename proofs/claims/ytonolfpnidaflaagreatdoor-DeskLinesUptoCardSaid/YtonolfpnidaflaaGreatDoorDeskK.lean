/- Walks: wyref.Lines. No conditions. -/
import Derived.Test.YtonolfpnidaflaaGreatDoorGDc
namespace Go.Proofs.YtonolfpnidaflaaGreatDoor.E
open Go
set_option linter.unusedSimpArgs false
set_option linter.unusedVariables false
set_option linter.unusedSectionVars false
set_option maxRecDepth 20000
set_option maxHeartbeats 4000000
theorem Less.frz {tm : List (Nat × AV)} {hp hp1 : Hp} {n t : Nat} {y : AV} (h : passL hp [tget tm t] = some ([y], hp1)) : Less ⟨tm, hp, n⟩ ⟨(t, y) :: tm, hp1, n⟩ := by
 intro D w c a hs
 have hx : RelL w c [tget tm t] [a.tmps.getD t undef] := by
  simp only [RelL]
  exact ⟨_, _, rfl, hs.tm t, rfl⟩
 obtain ⟨c1, e1, i1, r1⟩ := passL_sound hs.inv hx h
 have r1 := RelL.of_RVL _ _ r1
 simp only [RelL] at r1
 obtain ⟨u, _, e, r1, rfl⟩ := r1
 cases e
 refine ⟨c1, e1.toW, ⟨hs.size, fun i => ?_, i1, hs.df⟩⟩
 by_cases hi : t = i
 ·subst hi
  simp only [tget, if_true]
  exact r1
 ·simp only [tget, if_neg hi]
  exact RelV.ext e1 _ _ (hs.tm i)
/-- The next round, where what a temporary holds is frozen first. -/
theorem Nxt.frz {σ : Type} {ids : List Nat} {vals : σ → List AV} {hps : σ → Hp} {inv : σ → Prop} {meas : σ → Nat} {n M : Nat} {tm : List (Nat × AV)} {hp hp1 : Hp} (ad : List Site) (s : σ) (t : Nat) (y : AV) (hf : passL hp [tget tm t] = some ([y], hp1))
  (h : toK ad hp1 (hps s) ((t, y) :: tm) ids (vals s)) (hh : toH ad hp1 (hps s)) (hi : inv s) (hm : meas s < M) : Nxt ids vals hps inv meas n M ⟨tm, hp, n⟩ :=
 ⟨_, _, Less.trans (Less.frz hf) (Less.to h hh), ⟨s, hi, rfl, rfl⟩, hm⟩
/-- A line, read byte by byte: the words that are complete, the one that is not. -/
def scStep (q : List ByteArray × List UInt8) (x : UInt8) : List ByteArray × List UInt8 := if x = 32 then (if q.2 = [] then q.1 else q.1 ++ [bs q.2], []) else (q.1, q.2 ++ [x])
def scEnd (q : List ByteArray × List UInt8) : List ByteArray := if q.2 = [] then q.1 else q.1 ++ [bs q.2]
def scan (l : List UInt8) : List ByteArray × List UInt8 := l.foldl scStep ([], [])
theorem scan_gen : ∀ (l : List UInt8) (ws : List ByteArray) (w : List UInt8), (32 : UInt8) ∉ w → scEnd (l.foldl scStep (ws, w)) = ws ++ ((splitC 32 (w ++ l)).filter fun w => decide (w ≠ [])).map bs
 | [], ws, w, h => by
  rw [List.append_nil, splitC_none h]
  unfold scEnd
  by_cases hw : w = []
  ·subst hw; simp
  ·simp [hw]
 | x :: l, ws, w, h => by
  rw [List.foldl_cons]
  by_cases hx : x = 32
  ·subst hx
   rw [splitC_hit h, show scStep (ws, w) 32 = (scEnd (ws, w), []) from rfl, scan_gen l _ [] (by simp)]
   unfold scEnd
   by_cases hw : w = []
   ·subst hw; simp
   ·simp [hw]
  ·rw [show scStep (ws, w) x = (ws, w ++ [x]) from if_neg hx, scan_gen l ws (w ++ [x]) (by simp [h, Ne.symm hx]), List.append_assoc]
   rfl
theorem scan_words (l : List UInt8) : scEnd (scan l) = wordsL l := by
 unfold scan
 rw [scan_gen l [] [] (by simp)]
 rfl
theorem scan_step {l : List UInt8} {i : Nat} {x : UInt8} (h : l[i]? = some x) : scan (l.take (i + 1)) = scStep (scan (l.take i)) x := by
 unfold scan
 rw [take_get h, List.foldl_append]
 rfl
theorem scan_len (l : List UInt8) : ∀ i, i ≤ l.length → (scan (l.take i)).1.length ≤ i ∧ (scan (l.take i)).2.length ≤ i
 | 0, _ => by simp [scan]
 | i + 1, h => by
  obtain ⟨x, hx⟩ := lt_get (show i < l.length by omega)
  have ih := scan_len l i (by omega)
  rw [scan_step hx]
  unfold scStep
  split
  ·split
   ·exact ⟨by simp only; omega, by simp⟩
   ·exact ⟨by simp only [List.length_append, List.length_singleton]; omega, by simp⟩
  ·exact ⟨by simp only; omega, by simp only [List.length_append, List.length_singleton]; omega⟩
theorem bsx_app (a b : List UInt8) : bs a ++ bs b = bs (a ++ b) := ba_ext (by rw [ba_app]; rfl)
theorem bsx_one {a : List UInt8} {i : Nat} {x : UInt8} (h : a[i]? = some x) : (bs a).extract i (i + 1) = bs [x] := ba_ext (by
 have hi : i < a.length := (List.getElem?_eq_some_iff.1 h).1
 rw [ByteArray.data_extract]
 simp only [bs, List.extract_toArray, List.extract_eq_take_drop, Nat.add_sub_cancel_left]
 rw [List.drop_eq_getElem_cons hi, (List.getElem?_eq_some_iff.1 h).2]
 rfl)
structure LnS where
 r : List UInt8
 ls : List (List ByteArray)
 n : Nat
def lsR (ls : List (List ByteArray)) : List (List AV) := ls.map fun l => [strs l]
theorem lsR_len (ls : List (List ByteArray)) : (lsR ls).length = ls.length := by simp [lsR]
theorem lsR_take (ls : List (List ByteArray)) : List.take ls.length (lsR ls) = lsR ls := List.take_of_length_le (by simp [lsR])
theorem lsR_snoc (ls : List (List ByteArray)) (l : List ByteArray) : lsR (ls ++ [l]) = lsR ls ++ [[strs l]] := by simp [lsR]
def keepS (L : List (List UInt8)) : List (List ByteArray) := (L.map wordsL).filter keepL
theorem keepS_cons (x : List UInt8) (L : List (List UInt8)) : keepS (x :: L) = if keepL (wordsL x) then wordsL x :: keepS L else keepS L := by
 unfold keepS
 rw [List.map_cons, List.filter_cons]
theorem cut_lines {r : List UInt8} (h : r ≠ []) : linesL r = (Lib.cut r [10]).1 :: linesL (Lib.cut r [10]).2.1 ∧ (Lib.cut r [10]).2.1.length < r.length ∧ (Lib.cut r [10]).1.length ≤ r.length := by
 rcases cut_cases 10 r with ⟨hn, e⟩ | ⟨a, b, rfl, hn, e⟩
 ·rw [e]
  refine ⟨by rw [lines_last h hn]; rfl, ?_, Nat.le_refl _⟩
  cases r with
  | nil => exact absurd rfl h
  | cons x r => simp
 ·rw [e]
  refine ⟨lines_hit hn, ?_, ?_⟩
  ·simp only [List.length_append, List.length_cons]; omega
  ·simp only [List.length_append, List.length_cons]; omega
theorem linesL_len (l : List UInt8) : (linesL l).length ≤ l.length + 1 := by
 unfold linesL
 have := splitC_cnt 10 l
 split
 ·rw [List.length_dropLast]; omega
 ·exact this
theorem Lines_ok (s : ByteArray) (hs : s.size ≤ 1048576) : Ok Tryz.prog 24 [S s] (.tup [.list 1 (lsR (scriptL s.data.toList)), B (decide ((linesL s.data.toList).length ≤ 200))]) := by
 have hsz := size_len s
 have hll := linesL_len s.data.toList
 refine Ok.of_wp (rs := [.tmp 2, .tmp 3]) (n := 68) Tryz.func24 rfl rfl rfl (by simp) fo (by kernel_rfl) ?_
 simp +decide -implicitDefEqProofs only [S0, simprocAttr]
 refine ALoop.st [0, 4, 5] (fun (q : LnS) => [S (bs q.r), .own (.l 64) 0 1 0 q.ls.length, I q.n]) (fun q => [(.l 64, 0, .row 33 1 none (lsR q.ls))]) (fun q => q.r.length ≤ s.size ∧ q.ls ++ keepS (linesL q.r) = scriptL s.data.toList ∧ q.n + (linesL q.r).length = (linesL s.data.toList).length) (fun q => q.r.length) [.l 64] ⟨s.data.toList, [], 0⟩ (by simp +decide -implicitDefEqProofs only [S0, simprocAttr]; try rfl) (by simp +decide -implicitDefEqProofs only [S0, simprocAttr, lsR, List.map_nil]) ⟨by simp only; omega, rfl, by simp⟩ ?_
 rintro ⟨r, ls, n⟩ ⟨hr, hls, hn⟩
 simp only at hr hls hn
 by_cases h0 : r = []
 ·subst h0
  have hb : decide (bs [] = ⟨#[]⟩) = true := rfl
  rw [lines_nil] at hls hn
  have hls2 : ls = scriptL s.data.toList := by rw [← hls]; simp [keepS]
  have hn2 : n = (linesL s.data.toList).length := by simpa using hn
  subst hls2 hn2
  simp +decide -implicitDefEqProofs only [S0, simprocAttr, toList_beq, hb, lsR_take, lsR_len]
  exact B_eq (by rw [decide_eq_decide]; omega)
 ·have hb : decide (bs r = ⟨#[]⟩) = false := decide_eq_false fun e => h0 (bs_inj.1 (e.trans rfl))
  obtain ⟨c1, c2, c3⟩ := cut_lines h0
  have hwn := wr_add1 (i := n) (n := (2000000 : Nat)) (by omega) (by omega)
  simp +decide -implicitDefEqProofs only [S0, simprocAttr, toList_beq, hb]
  refine call_eq (sCut_ok (bs r) 10 (by rw [bs_size]; omega)) ?_
  rw [bs_list]
  obtain ⟨a, ha⟩ : ∃ a, a = (Lib.cut r [10]).1 := ⟨_, rfl⟩
  obtain ⟨b, hb2⟩ : ∃ b, b = (Lib.cut r [10]).2.1 := ⟨_, rfl⟩
  rw [← ha] at c1 c3
  rw [← hb2] at c1 c2
  rw [← ha, ← hb2]
  have hlsl : ls.length ≤ 1048577 := by
   have e := congrArg List.length hls
   rw [List.length_append] at e
   have : (scriptL s.data.toList).length ≤ (linesL s.data.toList).length := by
    unfold scriptL
    have := List.length_filter_le keepL ((linesL s.data.toList).map wordsL)
    rwa [List.length_map] at this
   omega
  rw [c1, keepS_cons] at hls
  rw [c1, List.length_cons] at hn
  simp +decide -implicitDefEqProofs only [S0, simprocAttr]
  refine ALoop.st [0, 4, 5, 6, 9, 10, 11] (fun (q : Option Nat) => match q with
   | some i => [S (bs b), .own (.l 64) 0 1 0 ls.length, I ((n + 1 : Nat) : Int), S (bs a), .own (.l 51) 0 1 0 (scan (a.take i)).1.length, S (bs (scan (a.take i)).2), I i]
   | none => [S (bs b), .own (.l 64) 0 1 0 ls.length, I ((n + 1 : Nat) : Int), S (bs a), strs (wordsL a), S ⟨#[]⟩, I ((a.length + 1 : Nat) : Int)])
   (fun q => match q with
   | some i => [(.l 64, 0, .row 33 1 none (lsR ls)), (.l 51, 0, .row 9 1 none (ss1 (scan (a.take i)).1))]
   | none => [(.l 64, 0, .row 33 1 none (lsR ls))])
   (fun q => match q with
   | some i => i ≤ a.length
   | none => True) (fun q => match q with
   | some i => a.length + 1 - i
   | none => 0) [.l 51] (some 0) (by simp +decide -implicitDefEqProofs only [S0, simprocAttr, hwn, lsR_len, scan, List.take_zero, List.foldl_nil, List.length_nil]; try rfl) (by simp +decide -implicitDefEqProofs only [S0, simprocAttr, lsR_len, scan, List.take_zero, List.foldl_nil, List.map_nil]) (Nat.zero_le _) ?_
  rintro (_ | i) hi
  ·simp only
   have hgt : ¬ ((a.length + 1 : Nat) : Int) ≤ a.length := by omega
   obtain ⟨W, hW⟩ : ∃ W, W = wordsL a := ⟨_, rfl⟩
   rw [← hW] at hls
   simp +decide -implicitDefEqProofs only [S0, simprocAttr, bs_size, hgt]
   rw [← hW]
   by_cases hW0 : W = []
   ·rw [if_neg (by rw [hW0]; simp)]
    rw [if_neg (by rw [hW0]; simp [keepL])] at hls
    exact Nxt.mk [] ⟨b, ls, n + 1⟩ (by simp +decide -implicitDefEqProofs only [S0, simprocAttr]) (by simp +decide -implicitDefEqProofs only [S0, simprocAttr]) ⟨by simp only; omega, hls, by simp only; omega⟩ (by simp only; omega)
   ·obtain ⟨w, r2, hWr⟩ : ∃ w r, W = w :: r := by
     cases hc : W with
     | nil => exact absurd hc hW0
     | cons w r => exact ⟨w, r, rfl⟩
    have hw0 : W[0]? = some w := by rw [hWr]; rfl
    have hwp : (0 : Int) < W.length := by rw [hWr, List.length_cons]; omega
    rw [if_pos hwp]
    by_cases hsh : w = ⟨#[35]⟩
    ·have hds : decide (w = ⟨#[35]⟩) = true := decide_eq_true hsh
     rw [if_neg (by rw [hWr]; simp [keepL, hsh])] at hls
     simp +decide -implicitDefEqProofs only [S0, simprocAttr, hw0, toList_beq, hds, Option.map_some]
     exact Nxt.mk [] ⟨b, ls, n + 1⟩ (by simp +decide -implicitDefEqProofs only [S0, simprocAttr]) (by simp +decide -implicitDefEqProofs only [S0, simprocAttr]) ⟨by simp only; omega, hls, by simp only; omega⟩ (by simp only; omega)
    ·have hds : decide (w = ⟨#[35]⟩) = false := decide_eq_false hsh
     rw [if_pos (by rw [hWr]; simp [keepL, hsh])] at hls
     simp +decide -implicitDefEqProofs only [S0, simprocAttr, hw0, toList_beq, hds, Option.map_some, lsR_take, lsR_len]
     refine ⟨by omega, ?_⟩
     exact Nxt.mk [] ⟨b, ls ++ [W], n + 1⟩ (by simp +decide -implicitDefEqProofs only [S0, simprocAttr, List.length_append, List.length_singleton]) (by simp +decide -implicitDefEqProofs only [S0, simprocAttr, lsR_snoc]) ⟨by simp only; omega, by simp only; rw [List.append_assoc]; exact hls, by simp only; omega⟩ (by simp only; omega)
  ·simp only at hi ⊢
   have hle : (i : Int) ≤ a.length := by omega
   have hwi := wr_add1 (i := i) (n := (2000000 : Nat)) (by omega) (by omega)
   obtain ⟨q1, q2⟩ := scan_len a i hi
   obtain ⟨ws, w, hsc⟩ : ∃ ws w, scan (a.take i) = (ws, w) := ⟨_, _, rfl⟩
   rw [hsc] at q1 q2
   simp only at q1 q2
   have htw : List.take ws.length (ss1 ws) = ss1 ws := List.take_of_length_le (by simp [ss1])
   by_cases hlt : i < a.length
   ·have h' : (i : Int) < a.length := by omega
    obtain ⟨x, hx⟩ := lt_get hlt
    have hst := scan_step hx
    rw [hsc] at hst
    by_cases hx32 : x = 32
    ·have hxe : (x.toNat : Int) = 32 := by rw [hx32]; rfl
     by_cases hw : w = []
     ·have hd1 : decide (bs w = ⟨#[]⟩) = true := decide_eq_true (by rw [hw]; rfl)
      have hst2 : scan (a.take (i + 1)) = (ws, []) := by rw [hst, hx32, hw]; rfl
      simp +decide -implicitDefEqProofs only [S0, simprocAttr, bs_size, bs_list, hle, h', hx, hsc, hxe, toList_beq, hd1]
      exact Nxt.mk [] (some (i + 1)) (by simp +decide -implicitDefEqProofs only [S0, simprocAttr, hwi, hst2]; try rfl) (by simp +decide -implicitDefEqProofs only [S0, simprocAttr, hst2]) (by simp only; omega) (by simp only; omega)
     ·have hd1 : decide (bs w = ⟨#[]⟩) = false := decide_eq_false (fun e => hw (bs_inj.1 (e.trans rfl)))
      have hst2 : scan (a.take (i + 1)) = (ws ++ [bs w], []) := by rw [hst, hx32]; unfold scStep; simp [hw]
      simp +decide -implicitDefEqProofs only [S0, simprocAttr, bs_size, bs_list, hle, h', hx, hsc, hxe, toList_beq, hd1, htw]
      refine ⟨by omega, ?_⟩
      exact Nxt.mk [] (some (i + 1)) (by simp +decide -implicitDefEqProofs only [S0, simprocAttr, hwi, hst2, List.length_append, List.length_singleton]; try rfl) (by simp +decide -implicitDefEqProofs only [S0, simprocAttr, hst2, List.map_append]) (by simp only; omega) (by simp only; omega)
    ·have hxe : ¬ ((x.toNat : Int) = 32) := by
      intro e
      apply hx32
      apply UInt8.toNat_inj.1
      show x.toNat = 32
      omega
     have hst2 : scan (a.take (i + 1)) = (ws, w ++ [x]) := by rw [hst]; exact if_neg hx32
     have hex := bsx_one hx
     simp +decide -implicitDefEqProofs only [S0, simprocAttr, bs_size, bs_list, hle, h', hx, hsc, hxe, hwi, hex, bsx_app]
     refine ⟨by omega, by omega, by omega, ?_⟩
     exact Nxt.mk [] (some (i + 1)) (by simp +decide -implicitDefEqProofs only [S0, simprocAttr, hst2]) (by simp +decide -implicitDefEqProofs only [S0, simprocAttr, hst2]) (by simp only; omega) (by simp only; omega)
   ·have h' : ¬ (i : Int) < a.length := by omega
    have hil : i = a.length := by omega
    have hfe : a.take i = a := by rw [hil, List.take_length]
    have hend := scan_words a
    rw [← hfe, hsc, hfe] at hend
    by_cases hw : w = []
    ·have hd1 : decide (bs w = ⟨#[]⟩) = true := decide_eq_true (by rw [hw]; rfl)
     have hW : ws = wordsL a := by rw [← hend]; unfold scEnd; simp [hw]
     simp +decide -implicitDefEqProofs only [S0, simprocAttr, bs_size, bs_list, hle, h', hsc, toList_beq, hd1]
     rw [hW]
     rw [hW] at htw
     refine Nxt.frz [] none 9 (strs (wordsL a)) (hp1 := [(.l 64, 0, .row 33 1 none (lsR ls)), (.l 51, 0, .ice 1 (ss1 (wordsL a)))]) (by simp +decide -implicitDefEqProofs only [S0, simprocAttr, htw]; try rfl) ?_ ?_ trivial ?_
     ·rw [← hil]
      simp +decide -implicitDefEqProofs only [S0, simprocAttr, hwi]
     ·simp +decide -implicitDefEqProofs only [S0, simprocAttr]
     ·simp only; omega
    ·have hd1 : decide (bs w = ⟨#[]⟩) = false := decide_eq_false (fun e => hw (bs_inj.1 (e.trans rfl)))
     have hW : ws ++ [bs w] = wordsL a := by rw [← hend]; unfold scEnd; simp [hw]
     simp +decide -implicitDefEqProofs only [S0, simprocAttr, bs_size, bs_list, hle, h', hsc, toList_beq, hd1, htw]
     refine ⟨by omega, ?_⟩
     have hwl : (wordsL a).length = ws.length + 1 := by rw [← hW]; simp
     have htw2 : List.take (ws.length + 1) (ss1 (wordsL a)) = ss1 (wordsL a) := List.take_of_length_le (by simp [ss1, hwl])
     have hca : ss1 ws ++ [[S (bs w)]] = ss1 (wordsL a) := by rw [← hW]; simp [ss1]
     refine Nxt.frz [] none 9 (strs (wordsL a)) (hp1 := [(.l 64, 0, .row 33 1 none (lsR ls)), (.l 51, 1, .ice 1 (ss1 (wordsL a))), (.l 50, 1, .row 9 1 none [[S (bs w)]])]) ?_ ?_ ?_ trivial ?_
     ·simp +decide -implicitDefEqProofs only [S0, simprocAttr, htw2, hca, hwl]
      try rfl
     ·rw [← hil]
      simp +decide -implicitDefEqProofs only [S0, simprocAttr, hwi]
     ·simp +decide -implicitDefEqProofs only [S0, simprocAttr]
     ·simp only; omega
end Go.Proofs.YtonolfpnidaflaaGreatDoor.E
